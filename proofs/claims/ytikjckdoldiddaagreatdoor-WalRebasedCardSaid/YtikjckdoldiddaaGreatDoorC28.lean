/- The walk of Cut. Printed by gen_wv5.py. -/
import Derived.Test.YtikjckdoldiddaaGreatDoorC27
namespace Go.Proofs.YtikjckdoldiddaaGreatDoor
open Go.RowKit Go.Maps
set_option linter.unusedVariables false
set_option linter.unusedSimpArgs false
attribute [local go_sem] bmax2 bmin2 bmax_two bmin_two

theorem LoX.setL {D G E : Nat → Prop} {w : World} {g dg : Nat} {v : Lo} (h : LoX D G w g dg v) (l : List Ent) {a : Option Addr} {ln lc : Nat} (hes : EsF E w a ln lc l) (hD : ∀ q, D q → ¬ E q) (hE : ∀ q, E q → q ≠ g ∧ q < w.heap.size) :
    LoX D E (w.setCell ⟨g, 4, none⟩ (.slice a ln lc)) g dg (v.setV { v.s.v with l := l }) ∧ Frm (fun q => q = g) w (w.setCell ⟨g, 4, none⟩ (.slice a ln lc)) ∧ (w.setCell ⟨g, 4, none⟩ (.slice a ln lc)).heap.size = w.heap.size := by
  obtain ⟨h1, h2, h3, h4⟩ := h
  obtain ⟨la, ln0, lc0, o1, o2⟩ := h2
  have hS := (SetG.start o1).step 4 (.slice a ln lc)
  refine ⟨⟨h1.frm hS.frm fun q hq e => (h3 q hq).1 e, ⟨a, ln, lc, hS.obj, hes.keep fun q hq hl => ⟨hq, hS.frm.block q hl fun e => (hE q hq).1 e⟩⟩, fun q hq => ⟨(h3 q hq).1, hD q hq⟩, fun q hq => ⟨(hE q hq).1, ?_⟩⟩, hS.frm, hS.size⟩
  rw [hS.size]; exact (hE q hq).2
set_option maxRecDepth 100000 in
set_option maxHeartbeats 8000000 in
theorem LCut_any {A : Nat → Prop} {w : World} {g dg : Nat} {v : Lo} {k0 m0 : Nat} (h : LoAt A w g dg v) (hf : v.Fit k0 m0) (hk0 : k0 ≤ 5000) (hm0 : m0 ≤ 500000000) (n : Int) (hn : In64 n) (hT : TabP w) :
    Calls Tryz.prog 26 #[.pointer (some ⟨g, 0, none⟩), .int .i64 n] w (LoPost A g dg (v.cut n) w) := by
  have HLA := hid h
  obtain ⟨D, G, hX, hDA, hGA, hgA⟩ := LoX.of h
  have hAl := h.lt
  have HX0 := hid hX
  have HSUB := hid (show (∀ q, D q → A q) ∧ (∀ q, G q → A q) ∧ A g ∧ ∀ q, A q → q < w.heap.size from ⟨hDA, hGA, hgA, hAl⟩)
  have HWX := hid (fun W (hW : Ext w W) {E : Nat → Prop} {ba : Option Addr} {bn bc : Nat} (hb : ByF E W ba bn bc (cutB n)) => write_x (hX.ext hW) hf.ok (by have := hf.acts; omega) (by have := hf.tt; omega) (by have := hf.sz; omega) hb (by have h1 := cutB_len n; omega) (hT.ext hW))
  have HM := hid (lmade_any hX.2.1.cells.1)
  have hgl := hX.2.1.lt
  have HGW := hid hgl
  have hfi := hf.fine hm0
  obtain ⟨wa, wn, wc, hvw, -⟩ := hX.2.1.vw hfi (by omega)
  have HLAST := hid (last_any hvw)
  have c2 := hvw.c2
  have HB := hid (show 0 ≤ v.s.v.i ∧ v.s.v.i ≤ 1099511627776 ∧ v.s.v.l.length ≤ 100000000 from ⟨hfi.big.1, hfi.big.2, by have := hfi.many; omega⟩)
  have HREC := hid (fun W => record_lit W [3, n] 3 (by intro y hy; simp at hy; rcases hy with rfl | rfl; exact ⟨by decide, by decide⟩; exact hn) (by simp))
  have HN := hid hn
  obtain ⟨r, hr⟩ : ∃ r, r = v.cut n := ⟨_, rfl⟩
  rw [← hr]
  have HR := hid (show r = if n ≤ v.s.v.i ∨ v.s.v.last < n then (51, v) else if (v.write (cutB n)).1 = 0 then (0, (v.write (cutB n)).2.setV (v.s.v.cutV n)) else v.write (cutB n) from hr)
  clear h hf hk0 hm0 hn hT hX hDA hGA hgA hAl hfi hvw hr hgl
  by_cases a1 : n ≤ v.s.v.i
  · have a1b : decide (n ≤ v.s.v.i) = true := by simpa using a1
    have HR1 := hid (HR.out.trans (if_pos (.inl a1)))
    clear a1
    go_enter Tryz.func26, Tryz.ntmps26
    go_wp2_with fail
    refine Calls.mono HM.out ?_
    rintro e w ⟨rfl, rfl⟩
    go_wp2
    go_ret
    rw [HR1.out]
    exact HLA.out.same (Below.refl _ _) 51
  have a1b : decide (n ≤ v.s.v.i) = false := by simpa using a1
  obtain ⟨zl, hzl⟩ : ∃ zl, zl = v.s.v.last := ⟨_, rfl⟩
  rw [← hzl] at HR HLAST
  have HZL := hid hzl
  by_cases a2 : zl < n
  · have a2b : decide (zl < n) = true := by simpa using a2
    have HR1 := hid (HR.out.trans (if_pos (.inr a2)))
    clear a1 a2 hzl
    go_enter Tryz.func26, Tryz.ntmps26
    go_wp2_with fail
    refine Calls.mono HM.out ?_
    rintro e w ⟨rfl, rfl⟩
    go_wp2_with fail
    refine Calls.mono HLAST.out ?_
    rintro e w1 ⟨rfl, qn, rfl⟩
    go_wp2
    go_ret
    rw [HR1.out]
    exact HLA.out.same (ext_drewN _ _) 51
  have a2b : decide (zl < n) = false := by simpa using a2
  have HR1 := hid (HR.out.trans (if_neg (fun h => h.elim a1 a2)))
  obtain ⟨u, hu⟩ : ∃ u : Nat, n - v.s.v.i - 1 = (u : Int) := ⟨(n - v.s.v.i - 1).toNat, by omega⟩
  obtain ⟨d1, hd1⟩ : ∃ d1 : Int, d1 = n - v.s.v.i := ⟨_, rfl⟩
  have hlx : zl = v.s.v.i + (v.s.v.l.length : Int) := hzl
  have hw1 : IntKind.i64.wrap (n - v.s.v.i) = d1 := by rw [hd1]; have h1 := HB.out; exact IntWalk.i64_in _ ⟨by omega, by omega⟩
  have hw2 : IntKind.i64.wrap (d1 - 1) = (u : Int) := by rw [hd1, hu]; have h1 := HB.out; exact IntWalk.i64_in _ ⟨by omega, by omega⟩
  have HUL := hid (show u ≤ v.s.v.l.length by omega)
  have HCV := hid (show v.s.v.cutV n = { v.s.v with l := v.s.v.l.take u } by unfold Wv.cutV; rw [hu, Int.toNat_natCast])
  obtain ⟨q, hq⟩ : ∃ q, q = v.write (cutB n) := ⟨_, rfl⟩
  have hqv : q.2.s.v = v.s.v := by rw [hq]; exact Lo.write_v _ _
  rw [← hq] at HR1 HWX
  obtain ⟨q1, q2⟩ := q
  dsimp only at HR1 HWX hqv
  have HQV := hid hqv
  obtain ⟨vi, hvi⟩ : ∃ vi, vi = v.s.v.i := ⟨_, rfl⟩
  rw [← hvi] at a1b hw1 c2
  have HVI := hid hvi
  clear a1 a2 hzl hu hd1 hlx hq hqv hvi HR
  go_enter Tryz.func26, Tryz.ntmps26
  go_wp2_with fail
  refine Calls.mono HM.out ?_
  rintro e w ⟨rfl, rfl⟩
  go_wp2_with fail
  refine Calls.mono HLAST.out ?_
  rintro e w1 ⟨rfl, qn, hw⟩
  have hx1 : Ext w w1 := by rw [hw]; exact ext_drewN _ _
  have HX1 := hid hx1
  clear hw hx1 c2
  go_wp2_with fail
  refine Calls.mono (HREC.out w1) ?_
  rintro e w2 ⟨b2, n2, c2', rfl, ho2, hx2⟩
  have HX2 := hid (HX1.out.trans' ((ext_alloc _ _).trans' hx2))
  have HWR := hid (HWX.out w2 HX2.out (ho2.any (by have h1 := ho2.1; have h2 := cutB_len n; have h3 : (cutB n).length = (recB (payB [3, n] false [])).length := rfl; omega)))
  clear ho2 hx2 HREC HLAST HM
  go_wp2_with fail
  refine Calls.mono HWR.out ?_
  rintro e w3 ⟨rfl, ⟨D5, hD5, hl5⟩, hf5⟩
  have HD5 := hid hD5
  have HL5 := hid hl5
  have HF5 := hid hf5
  have HLP := hid (show LoPost A g dg (q1, q2) w (.returned (.int .i64 q1)) w3 from
    LoX.done (A := A) (w := w) (w' := w3) (r := (q1, q2)) (D := D) (G := G) (g := g) (dg := dg) (e := .returned (.int .i64 q1)) HSUB.out.1 HSUB.out.2.1 HSUB.out.2.2.1 HSUB.out.2.2.2 ⟨rfl, ⟨D5, fun q hq => (hD5 q hq).imp id fun h => ⟨Nat.le_trans HX2.out.size h.1, h.2⟩, hl5⟩, Frm.after_ext HX2.out hf5⟩)
  clear hD5 hl5 hf5 HWR
  by_cases hq1 : q1 = 0
  · subst hq1
    have hr3 := HR1.out
    rw [if_pos rfl] at hr3
    have HR4 := hid hr3
    obtain ⟨la, ln, lc, hobj, hes⟩ := HL5.out.2.1
    rw [HQV.out] at hes hobj
    have hln := hes.1
    obtain ⟨ca, cm, ck, cut1, cut2, hcut⟩ := ecut_h hes (u : Int) (by omega) (by have := HUL.out; omega)
    rw [Int.toNat_natCast] at hcut
    have HCUT := hid hcut
    have HGL3 := hid (Array.getElem?_eq_some_iff.1 hobj).1
    have HCLN := hid (fun W (hW : Ext w3 W) => cloneE_row (HCUT.out.below hW))
    have HOBJ := hid hobj
    obtain ⟨⟨-, -, z2, -, z4, -⟩, -, -⟩ := cells9 hobj
    rw [← HVI.out] at z2
    have hgl3 := HGL3.out
    have hlc : (u : Int) ≤ (lc : Int) := by have h1 := hes.2.1; have := HUL.out; omega
    have hu0 : (0 : Int) ≤ (u : Int) := by omega
    clear hr3 HR1 hobj hes hln hcut
    go_wp2
    have hxd : Ext w3 w3.drew := ext_drew w3
    have HXD := hid hxd
    obtain ⟨-, cfz, -⟩ := cells9 HOBJ.out
    have f4 := cfz 4
    clear hxd cfz
    go_region_with (go_at_call 52; refine Calls.mono (HCLN.out _ HXD.out) ?_; rintro e wc ⟨vr, rfl, hrow, hxc⟩; obtain ⟨ra, rn, rc, hvr, hrn⟩ : ∃ a m c, vr = .slice a m c ∧ m = (v.s.v.l.take u).length := (by obtain ⟨a, c, h⟩ := hrow.slice_; exact ⟨a, _, c, h, rfl⟩); subst hvr; have HROW := hid hrow; have HRN := hid hrn; have hgl := Nat.lt_of_lt_of_le hgl3 hxc.size; have hxc3 := HXD.out.trans' hxc; have HXC := hid hxc3; obtain ⟨⟨-, -, -, -, c4, -⟩, cfz, -⟩ := cells9 ((hxc3.block g HGL3.out).trans HOBJ.out); have f4 := cfz 4; clear hrow hrn hxc hxc3)
    all_goals
      clear z2 z4 c4 f4
      have hrow := HROW.out
      have hrn := HRN.out
      have hlm : (v.s.v.l.take u).length * 40 ≤ 140737488351232 := by rw [List.length_take]; have := HB.out.2.2; omega
      have hes := (hrow.es hlm).lt
      have HZ := hid (show w3.heap.size ≤ w3.drew.heap.size from HXD.out.size)
      have HS := hid ((HL5.out.ext HXC.out).setL (v.s.v.l.take u) hes (fun q hq hE => by
        have h5 := HL5.out.1.lt q hq
        rcases hE.1 with h1 | h1
        · exact (HL5.out.2.2.1 q hq).2 h1.1
        · have := h1.1; have := HZ.out; omega) (fun q hE => ⟨by
        rcases hE.1 with h1 | h1
        · exact (HL5.out.2.2.2 q h1.1).1
        have := h1.1; have := HZ.out; have := HGL3.out; omega, hE.2⟩))
      clear hrow hrn hlm hes
      go_wp2
      go_ret
      rw [HR4.out]
      show LoPost A g dg (0, q2.setV (v.s.v.cutV n)) w _ (wc.setCell ⟨g, 4, none⟩ (.slice ra rn rc))
      have hs1 := HS.out.1
      rw [HQV.out, ← HCV.out] at hs1
      have z1 := HX2.out.size
      have z2 := HF5.out.size
      have z3 := HXC.out.size
      refine ⟨rfl, LoX.at_ hs1 (fun q hq => ?_) (fun q hq => ?_) (.inl HSUB.out.2.2.1) (fun q hq => ?_), (HLP.out.2.2.then_ext HXC.out).trans HS.out.2.1 fun q hq => .inl (by rw [show q = g from hq]; exact HSUB.out.2.2.1)⟩
      · rcases HD5.out q hq with h | h
        · exact .inl (HSUB.out.1 q h)
        exact .inr ⟨by omega, by rw [HS.out.2.2]; have := h.2; omega⟩
      · rcases hq.1 with h | h
        · exact .inl (HSUB.out.2.1 q h.1)
        exact .inr ⟨by have := h.1; have := HZ.out; omega, by rw [HS.out.2.2]; exact h.2⟩
      rw [HS.out.2.2]
      rcases hq with h | h
      · have := HSUB.out.2.2.2 q h; omega
      have := h.2; rw [HS.out.2.2] at this; exact this
  have hb : (q1 == 0) = false := by simpa using hq1
  have hr3 := HR1.out
  rw [if_neg hq1] at hr3
  have HR4 := hid hr3
  clear hr3 HR1 hq1
  go_wp2
  go_ret
  rw [HR4.out]
  exact HLP.out
end Go.Proofs.YtikjckdoldiddaaGreatDoor
