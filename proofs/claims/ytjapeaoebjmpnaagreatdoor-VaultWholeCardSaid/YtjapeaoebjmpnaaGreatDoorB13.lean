/- The walk of Take. Printed by gen_vs4.py. -/
import Derived.Test.YtjapeaoebjmpnaaGreatDoorB12
namespace Go.Proofs.YtjapeaoebjmpnaaGreatDoor
open Go.RowKit Go.Maps
set_option linter.unusedVariables false
set_option linter.unusedSimpArgs false
attribute [local go_sem] bmax2 bmin2 bmax_two bmin_two

theorem InO.keep1 {F G : Nat → Prop} {w w' : World} {g : Nat} {s : IS} (h : InO F w g s) (hf : ∀ k, F k → k < w.heap.size → G k ∧ w'.heap[k]? = w.heap[k]?) (hg : w'.heap[g]? = w.heap[g]?) : InO G w' g s := by
  obtain ⟨da, dn, dc, h1, h2, h3, h4⟩ := h
  exact ⟨da, dn, dc, hg.trans h1, h2, h3, h4.keep hf⟩
def TakePost (G : Nat → Prop) (g : Nat) (r : (By × Bool × Int) × IS) (w : World) (e : Ending) (w' : World) : Prop :=
  ∃ a n c, e = .returned (.tuple #[.slice a n c, .bool r.1.2.1, .int .i64 r.1.2.2]) ∧ ByF (fun q => w.heap.size ≤ q ∧ q < w'.heap.size) w' a n c r.1.1 ∧
    InO (fun q => G q ∨ (w.heap.size ≤ q ∧ q < w'.heap.size)) w' g r.2 ∧ Frm (fun q => q = g) w w'
set_option maxHeartbeats 1000000 in
theorem Take_nil (w : World) (i t k : Int) (a : Option Addr) (n c : Nat) (done : Bool) : Calls Tryz.prog 37 #[.pointer none, .int .i64 i, .int .i64 t, .int .i64 k, .slice a n c, .bool done] w
    fun e w' => e = .returned (.tuple #[.slice none 0 0, .bool false, .int .i64 6]) ∧ w' = w := by
  go_enter Tryz.func37, Tryz.ntmps37
  go_wp2
  go_ret3
  exact ⟨rfl, rfl⟩
theorem IS.take_bad {s : IS} {i t k : Int} {p : By} {done : Bool} (h : k ≠ 0) (h2 : i ≠ s.i ∨ t ≠ s.t ∨ k ≠ s.d.length) : s.take i t k p done = (([], false, 61), s) := by
  unfold IS.take
  rw [if_pos ⟨h, h2⟩]
/-- What stands behind the join: the world of the call is W1, an intake's block is another, and all else as it was. -/
theorem take_keep {G : Nat → Prop} {w W1 w2 w3 : World} {g gj jn jc : Nat} {i1 t1 : Int} {d : By} {o : Obj} (hgl : g < w.heap.size) (hz : W1.heap.size = w.heap.size) (hf1 : Frm (fun q => q = g) w W1) (hx : Ext (W1.alloc o) w2) (hi : In64 i1) (ht : In64 t1)
    (hb : ByF (fun q => (W1.alloc o).heap.size ≤ q ∧ q < w2.heap.size) w2 (some ⟨gj, 0, none⟩) jn jc d) (hS : SetG g 89 w2 w3 #[.int .i64 i1, .int .i64 t1, .slice (some ⟨gj, 0, none⟩) jn jc]) :
    InO (fun q => G q ∨ (w.heap.size ≤ q ∧ q < w3.heap.size)) w3 g ⟨i1, t1, d⟩ ∧ Frm (fun q => q = g) w w3 := by
  have hz2 := hx.size
  simp at hz2
  refine ⟨⟨some ⟨gj, 0, none⟩, jn, jc, hS.obj, hi, ht, hb.keep fun q hq _ => ⟨.inr ⟨?_, ?_⟩, hS.frm.block q hq.2 ?_⟩⟩, ?_⟩
  · have := hq.1; simp at this; omega
  · rw [hS.size]; exact hq.2
  · have := hq.1; simp at this; omega
  · exact (hf1.trans (Frm.of_ext ((ext_alloc W1 o).trans' hx) _) fun q hq => .inl hq).trans hS.frm fun q hq => .inl hq
theorem take_done {G : Nat → Prop} {w W1 w2 w3 : World} {g gj jn jc : Nat} {d : By} {o : Obj} (hgl : g < w.heap.size) (hz : W1.heap.size = w.heap.size) (hf1 : Frm (fun q => q = g) w W1) (hx : Ext (W1.alloc o) w2)
    (hb : ByF (fun q => (W1.alloc o).heap.size ≤ q ∧ q < w2.heap.size) w2 (some ⟨gj, 0, none⟩) jn jc d) (hS : SetG g 89 w2 w3 #[.int .i64 0, .int .i64 0, .slice none 0 0]) :
    ByF (fun q => w.heap.size ≤ q ∧ q < w3.heap.size) w3 (some ⟨gj, 0, none⟩) jn jc d ∧ InO (fun q => G q ∨ (w.heap.size ≤ q ∧ q < w3.heap.size)) w3 g ⟨0, 0, []⟩ ∧ Frm (fun q => q = g) w w3 := by
  have hz2 := hx.size
  simp at hz2
  refine ⟨hb.keep fun q hq _ => ⟨⟨?_, ?_⟩, hS.frm.block q hq.2 ?_⟩, ⟨none, 0, 0, hS.obj, ⟨by decide, by decide⟩, ⟨by decide, by decide⟩, ByF.nil_ _ _⟩, ?_⟩
  · have := hq.1; simp at this; omega
  · rw [hS.size]; exact hq.2
  · have := hq.1; simp at this; omega
  · exact (hf1.trans (Frm.of_ext ((ext_alloc W1 o).trans' hx) _) fun q hq => .inl hq).trans hS.frm fun q hq => .inl hq

set_option maxRecDepth 100000 in
set_option maxHeartbeats 1000000 in
theorem Take_any {F G : Nat → Prop} {w : World} {g : Nat} {s : IS} (h : InO G w g s) (hG : ∀ q, G q → q ≠ g) {pa : Option Addr} {pn pc : Nat} {p : By} (hp : ByF F w pa pn pc p) (hF : ∀ q, F q → q ≠ g) (i t k : Int) (hi : In64 i) (ht : In64 t) (done : Bool) :
    Calls Tryz.prog 37 #[.pointer (some ⟨g, 0, none⟩), .int .i64 i, .int .i64 t, .int .i64 k, .slice pa pn pc, .bool done] w (TakePost G g (s.take i t k p done) w) := by
  have h0 := h
  obtain ⟨da, dn, dc, h1, h2, h3, h4⟩ := h
  obtain ⟨⟨c0, c1, c2⟩, ⟨z0, z1, z2⟩, hgl⟩ := cells3 h1
  have hpn : pn = p.length := hp.1
  have hp47 : pn ≤ 140737488351232 := hp.2.2.1.2
  have hdn : dn = s.d.length := h4.1
  have hd47 : dn ≤ 140737488351232 := h4.2.2.1.2
  have HGL := hid hgl
  have HPN := hid hpn
  have HDN := hid hdn
  have HB := hid h1
  have H0 := hid h0
  have HI := hid hi
  have HT := hid ht
  have HG := hid hG
  obtain ⟨si, st, sd⟩ := s
  dsimp only at *
  by_cases hk : k = 0
  · subst hk
    have hS0 := (((SetG.start h1).step 0 (.int .i64 i)).step 1 (.int .i64 t)).step 2 (.slice none 0 0)
    have HP1 := hid ((hp.keep (w' := (((w.setCell ⟨g, 0, none⟩ (.int .i64 i)).setCell ⟨g, 1, none⟩ (.int .i64 t)).setCell ⟨g, 2, none⟩ (.slice none 0 0))) (G := fun _ => True) fun q hq hl => ⟨trivial, hS0.frm.block q hl (hF q hq)⟩))
    have HD1 := hid (ByF.nil_ (fun _ => True) (((w.setCell ⟨g, 0, none⟩ (.int .i64 i)).setCell ⟨g, 1, none⟩ (.int .i64 t)).setCell ⟨g, 2, none⟩ (.slice none 0 0)))
    have HS0 := hid hS0
    have hst : (IS.mk si st sd).set i t 0 = ⟨i, t, []⟩ := by unfold IS.set; rw [if_pos rfl]
    clear hS0
    by_cases hbig : 262144 < (pn : Int)
    · have hres : (IS.mk si st sd).take i t 0 p done = (([], false, 4), ⟨i, t, ([] : By)⟩) := by
        unfold IS.take
        rw [if_neg (fun h => h.1 rfl), hst, if_pos (by dsimp only; rw [← hpn]; simpa using hbig)]
      rw [hres]
      have hd1 : decide (262144 < (pn : Int)) = true := by simpa using hbig
      clear h0 h1 h2 h3 h4 hp hF hG hi ht hpn hdn hres hst hbig
      go_enter Tryz.func37, Tryz.ntmps37
      go_wp2
      go_ret3
      refine ⟨none, 0, 0, rfl, ByF.nil_ _ _, ?_, HS0.out.frm⟩
      exact ⟨none, 0, 0, HS0.out.obj, HI.out, HT.out, ByF.nil_ _ _⟩
    · have hd1 : decide (262144 < (pn : Int)) = false := by simpa using hbig
      have hJ := Join_any (bs_two HD1.out HP1.out 23) (by
        have e1 : ([([] : By), p] : List By).flatten.length = ([] : By).length + p.length := by simp
        rw [e1]; (try simp only [List.length_nil]); have := HDN.out; have := HPN.out; omega)
      have e1 : ([([] : By), p] : List By).flatten = ([] : By) ++ p := by simp
      rw [e1] at hJ
      have hnb : ¬ (262144 - (([] : By).length : Int) < p.length) := by (try simp only [List.length_nil]); have := HDN.out; have := HPN.out; omega
      simp only [World.size_setCell] at hJ
      have HJ := hid hJ
      have HNB := hid (show (([] : By) ++ p).length ≤ 140737488351232 by rw [List.length_append]; (try simp only [List.length_nil]); have := HDN.out; have := HPN.out; omega)
      cases done with
      | false =>
        have hres : (IS.mk si st sd).take i t 0 p false = (([], false, 0), ⟨i, t, ([] : By) ++ p⟩) := by
          unfold IS.take
          rw [if_neg (fun h => h.1 rfl), hst, if_neg hnb, if_pos rfl]
        rw [hres]
        clear h0 h1 h2 h3 h4 hp hF hG hi ht hpn hdn hres hst hbig hJ e1 hnb
        go_enter Tryz.func37, Tryz.ntmps37
        go_wp2_with fail
        refine Calls.mono HJ.out ?_
        rintro e w2 ⟨gj, jn, jc, rfl, hown, hx2⟩
        have hbk := hx2.block g (by (try simp only [World.size_alloc, World.size_setCell]); have := HGL.out; omega)
        rw [Below.heap_alloc _ _ _ (by (try simp only [World.size_setCell]); exact HGL.out), HS0.out.obj] at hbk
        have HBK := hid hbk
        have HBJ := hid (hown.by_ (by rw [hown.1]; exact HNB.out))
        have HX2 := hid hx2
        obtain ⟨⟨q0, q1, q2⟩, ⟨f0, f1, f2⟩, hl2⟩ := cells3 hbk
        clear hown hx2 hbk
        go_wp2
        go_ret3
        have hE := take_keep (G := G) HGL.out HS0.out.size HS0.out.frm HX2.out HI.out HT.out HBJ.out ((SetG.start HBK.out).step 2 (.slice (some ⟨gj, 0, none⟩) jn jc))
        exact ⟨none, 0, 0, rfl, ByF.nil_ _ _, hE.1, hE.2⟩
      | true =>
        have hres : (IS.mk si st sd).take i t 0 p true = ((([] : By) ++ p, true, 0), ⟨0, 0, []⟩) := by
          unfold IS.take
          rw [if_neg (fun h => h.1 rfl), hst, if_neg hnb, if_neg (by simp)]
        rw [hres]
        clear h0 h1 h2 h3 h4 hp hF hG hi ht hpn hdn hres hst hbig hJ e1 hnb
        go_enter Tryz.func37, Tryz.ntmps37
        go_wp2_with fail
        refine Calls.mono HJ.out ?_
        rintro e w2 ⟨gj, jn, jc, rfl, hown, hx2⟩
        have hbk := hx2.block g (by (try simp only [World.size_alloc, World.size_setCell]); have := HGL.out; omega)
        rw [Below.heap_alloc _ _ _ (by (try simp only [World.size_setCell]); exact HGL.out), HS0.out.obj] at hbk
        have HBK := hid hbk
        have HBJ := hid (hown.by_ (by rw [hown.1]; exact HNB.out))
        have HX2 := hid hx2
        obtain ⟨⟨q0, q1, q2⟩, ⟨f0, f1, f2⟩, hl2⟩ := cells3 hbk
        clear hown hx2 hbk
        go_wp2
        go_ret3
        have hE := take_done (G := G) HGL.out HS0.out.size HS0.out.frm HX2.out HBJ.out (((((SetG.start HBK.out).step 2 (.slice (some ⟨gj, 0, none⟩) jn jc)).step 0 (.int .i64 0)).step 1 (.int .i64 0)).step 2 (.slice none 0 0))
        exact ⟨some ⟨gj, 0, none⟩, jn, jc, rfl, hE.1, hE.2.1, hE.2.2⟩
  · have hkb : (k == 0) = false := by simpa using hk
    by_cases hm1 : i = si
    · subst hm1
      by_cases hm2 : t = st
      · subst hm2
        by_cases hm3 : k = (sd.length : Int)
        · have hm4 : k = (dn : Int) := by rw [hdn]; exact hm3
          have hkd : (k != (dn : Int)) = false := by simpa using hm4
          have HP1 := hid (hp.more (G := fun _ => True) fun _ _ => trivial)
          have HD1 := hid (h4.more (G := fun _ => True) fun _ _ => trivial)
          have HS0 := hid (SetG.start h1)
          have hst : (IS.mk i t sd).set i t k = ⟨i, t, sd⟩ := by unfold IS.set; rw [if_neg hk]
          by_cases hbig : 262144 - (dn : Int) < (pn : Int)
          · have hres : (IS.mk i t sd).take i t k p done = (([], false, 4), ⟨i, t, sd⟩) := by
              unfold IS.take
              rw [if_neg (by rintro ⟨-, h⟩; rcases h with h | h | h; exact h rfl; exact h rfl; exact h hm3), hst, if_pos (by dsimp only; rw [← hpn]; rw [← hdn]; exact hbig)]
            rw [hres]
            have hd1 : decide (262144 - (dn : Int) < (pn : Int)) = true := by simpa using hbig
            have hwr : IntKind.i64.wrap (262144 - (dn : Int)) = 262144 - (dn : Int) := IntWalk.i64_in _ ⟨by omega, by omega⟩
            clear h0 h1 h2 h3 h4 hp hF hG hi ht hpn hdn hm3 hres hst hbig
            go_enter Tryz.func37, Tryz.ntmps37
            go_wp2
            go_ret3
            refine ⟨none, 0, 0, rfl, ByF.nil_ _ _, ?_, HS0.out.frm⟩
            exact H0.out.keep1 (fun q hq _ => ⟨.inl hq, rfl⟩) rfl
          · have hd1 : decide (262144 - (dn : Int) < (pn : Int)) = false := by simpa using hbig
            have hJ := Join_any (bs_two HD1.out HP1.out 23) (by
              have e1 : ([sd, p] : List By).flatten.length = sd.length + p.length := by simp
              rw [e1]; (try simp only [List.length_nil]); have := HDN.out; have := HPN.out; omega)
            have e1 : ([sd, p] : List By).flatten = sd ++ p := by simp
            rw [e1] at hJ
            have hnb : ¬ (262144 - (sd.length : Int) < p.length) := by (try simp only [List.length_nil]); have := HDN.out; have := HPN.out; omega
            have hwr : IntKind.i64.wrap (262144 - (dn : Int)) = 262144 - (dn : Int) := IntWalk.i64_in _ ⟨by omega, by omega⟩
            have HJ := hid hJ
            have HNB := hid (show (sd ++ p).length ≤ 140737488351232 by rw [List.length_append]; (try simp only [List.length_nil]); have := HDN.out; have := HPN.out; omega)
            cases done with
            | false =>
              have hres : (IS.mk i t sd).take i t k p false = (([], false, 0), ⟨i, t, sd ++ p⟩) := by
                unfold IS.take
                rw [if_neg (by rintro ⟨-, h⟩; rcases h with h | h | h; exact h rfl; exact h rfl; exact h hm3), hst, if_neg hnb, if_pos rfl]
              rw [hres]
              clear h0 h1 h2 h3 h4 hp hF hG hi ht hpn hdn hm3 hres hst hbig hJ e1 hnb
              go_enter Tryz.func37, Tryz.ntmps37
              go_wp2_with fail
              refine Calls.mono HJ.out ?_
              rintro e w2 ⟨gj, jn, jc, rfl, hown, hx2⟩
              have hbk := hx2.block g (by (try simp only [World.size_alloc, World.size_setCell]); have := HGL.out; omega)
              rw [Below.heap_alloc _ _ _ (by (try simp only [World.size_setCell]); exact HGL.out), HS0.out.obj] at hbk
              have HBK := hid hbk
              have HBJ := hid (hown.by_ (by rw [hown.1]; exact HNB.out))
              have HX2 := hid hx2
              obtain ⟨⟨q0, q1, q2⟩, ⟨f0, f1, f2⟩, hl2⟩ := cells3 hbk
              clear hown hx2 hbk
              go_wp2
              go_ret3
              have hE := take_keep (G := G) HGL.out HS0.out.size HS0.out.frm HX2.out HI.out HT.out HBJ.out ((SetG.start HBK.out).step 2 (.slice (some ⟨gj, 0, none⟩) jn jc))
              exact ⟨none, 0, 0, rfl, ByF.nil_ _ _, hE.1, hE.2⟩
            | true =>
              have hres : (IS.mk i t sd).take i t k p true = ((sd ++ p, true, 0), ⟨0, 0, []⟩) := by
                unfold IS.take
                rw [if_neg (by rintro ⟨-, h⟩; rcases h with h | h | h; exact h rfl; exact h rfl; exact h hm3), hst, if_neg hnb, if_neg (by simp)]
              rw [hres]
              clear h0 h1 h2 h3 h4 hp hF hG hi ht hpn hdn hm3 hres hst hbig hJ e1 hnb
              go_enter Tryz.func37, Tryz.ntmps37
              go_wp2_with fail
              refine Calls.mono HJ.out ?_
              rintro e w2 ⟨gj, jn, jc, rfl, hown, hx2⟩
              have hbk := hx2.block g (by (try simp only [World.size_alloc, World.size_setCell]); have := HGL.out; omega)
              rw [Below.heap_alloc _ _ _ (by (try simp only [World.size_setCell]); exact HGL.out), HS0.out.obj] at hbk
              have HBK := hid hbk
              have HBJ := hid (hown.by_ (by rw [hown.1]; exact HNB.out))
              have HX2 := hid hx2
              obtain ⟨⟨q0, q1, q2⟩, ⟨f0, f1, f2⟩, hl2⟩ := cells3 hbk
              clear hown hx2 hbk
              go_wp2
              go_ret3
              have hE := take_done (G := G) HGL.out HS0.out.size HS0.out.frm HX2.out HBJ.out (((((SetG.start HBK.out).step 2 (.slice (some ⟨gj, 0, none⟩) jn jc)).step 0 (.int .i64 0)).step 1 (.int .i64 0)).step 2 (.slice none 0 0))
              exact ⟨some ⟨gj, 0, none⟩, jn, jc, rfl, hE.1, hE.2.1, hE.2.2⟩
        · have hm4 : (k != (dn : Int)) = true := by rw [hdn]; simpa using hm3
          rw [IS.take_bad hk (.inr (.inr hm3))]
          clear hm3
          clear h0 h1 h2 h3 h4 hp hF hG hi ht hpn hdn
          go_enter Tryz.func37, Tryz.ntmps37
          go_wp2
          go_ret3
          exact ⟨none, 0, 0, rfl, ByF.nil_ _ _, H0.out.keep1 (fun q hq _ => ⟨.inl hq, rfl⟩) rfl, Frm.refl _ _⟩
      · have hm4 : (t != st) = true := by simpa using hm2
        rw [IS.take_bad hk (.inr (.inl hm2))]
        clear hm2
        clear h0 h1 h2 h3 h4 hp hF hG hi ht hpn hdn
        go_enter Tryz.func37, Tryz.ntmps37
        go_wp2
        go_ret3
        exact ⟨none, 0, 0, rfl, ByF.nil_ _ _, H0.out.keep1 (fun q hq _ => ⟨.inl hq, rfl⟩) rfl, Frm.refl _ _⟩
    · have hm4 : (i != si) = true := by simpa using hm1
      rw [IS.take_bad hk (.inl hm1)]
      clear hm1
      clear h0 h1 h2 h3 h4 hp hF hG hi ht hpn hdn
      go_enter Tryz.func37, Tryz.ntmps37
      go_wp2
      go_ret3
      exact ⟨none, 0, 0, rfl, ByF.nil_ _ _, H0.out.keep1 (fun q hq _ => ⟨.inl hq, rfl⟩) rfl, Frm.refl _ _⟩
end Go.Proofs.YtjapeaoebjmpnaaGreatDoor
