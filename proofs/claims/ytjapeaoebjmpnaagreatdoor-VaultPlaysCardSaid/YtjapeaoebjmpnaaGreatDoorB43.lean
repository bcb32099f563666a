/- The walks of the law's alike and tells. -/
import Derived.Test.YtjapeaoebjmpnaaGreatDoorB42
import Derived.Test.YtjapeaoebjmpnaaGreatDoorB28
import Derived.Deep.DeepCutAuto
namespace Go.Proofs.YtjapeaoebjmpnaaGreatDoor
open Go.RowKit Go.Maps
set_option linter.unusedVariables false
set_option linter.unusedSimpArgs false
attribute [local go_sem] bmax2 bmin2 bmax_two bmin_two

theorem strEq_any {w : World} {a1 a2 : Option Addr} {c1 c2 : Nat} {L : List Nm} (hl : L.length ≤ 9223372036854775807)
    (h1 : ∀ k, (hk : k < L.length) → ∃ b, a1 = some ⟨b, 0, none⟩ ∧ w.cell? ⟨b, k, none⟩ = some (.string ⟨(L[k]).toArray⟩)) (h2 : ∀ k, (hk : k < L.length) → ∃ b, a2 = some ⟨b, 0, none⟩ ∧ w.cell? ⟨b, k, none⟩ = some (.string ⟨(L[k]).toArray⟩)) :
    Calls Tryz.prog 79 #[.slice a1 L.length c1, .slice a2 L.length c2] w (fun e w' => e = .returned (.bool true) ∧ Ext w w') := by
  by_cases h0 : L.length = 0
  · rw [h0]
    refine (Tryz.slices_Equal_string_empty a1 a2 c1 0 c2 w (by omega)).mono ?_
    rintro e w' ⟨rfl, rfl⟩
    exact ⟨by simp, Below.refl _ _⟩
  obtain ⟨b1, rfl, -⟩ := h1 0 (by omega)
  obtain ⟨b2, rfl, -⟩ := h2 0 (by omega)
  have hc : ∀ b, (∀ k, (hk : k < L.length) → ∃ b', (some ⟨b, 0, none⟩ : Option Addr) = some ⟨b', 0, none⟩ ∧ w.cell? ⟨b', k, none⟩ = some (.string ⟨(L[k]).toArray⟩)) → ∀ j, j < (L.map fun n => (⟨n.toArray⟩ : ByteArray)).length → w.cell? ⟨b, 0 + j, none⟩ = some (.string ((L.map fun n => (⟨n.toArray⟩ : ByteArray)).getD j ByteArray.empty)) := by
    intro b hb j hj
    rw [List.length_map] at hj
    obtain ⟨b', e, h⟩ := hb j hj
    cases e
    rw [Nat.zero_add, h, List.getD_eq_getElem?_getD, List.getElem?_map, List.getElem?_eq_getElem hj]
    rfl
  refine (Tryz.slices_Equal_string b1 0 L.length c1 b2 0 L.length c2 (L.map fun n => (⟨n.toArray⟩ : ByteArray)) (L.map fun n => (⟨n.toArray⟩ : ByteArray)) w (by rw [List.length_map]; exact Nat.le_refl _) (by rw [List.length_map]; exact Nat.le_refl _) hl hl (hc b1 h1) (hc b2 h2)).mono ?_
  rintro e w' ⟨rfl, q, rfl⟩
  exact ⟨by simp, ext_drewN w q⟩
theorem Used_at {D : Nat → Prop} {w : World} {g : Nat} {s : DS} (h : DiskAt D w g s) (hok : s.Ok) (ho : s.off = false) :
    Calls Tryz.prog 63 #[.pointer (some ⟨g, 0, none⟩)] w fun e w' => e = .returned (.int .i64 (s.used : Int)) ∧ Ext w w' := by
  obtain ⟨ms, ml, av, H, h⟩ := h
  exact Used_on h hok ho

set_option maxRecDepth 100000 in
set_option maxHeartbeats 8000000 in
theorem alike_any {D E : Nat → Prop} {w : World} {dg rg : Nat} {d : DS} (hd : DiskAt D w dg d) (hr : RDk E w rg d) (hok : d.Ok) (hnm : d.Nms) (ho : d.off = false) (hc : d.acts.length ≤ 1000000000) :
    Calls Tryz.prog 31 #[.pointer (some ⟨dg, 0, none⟩), .pointer (some ⟨rg, 0, none⟩)] w (fun e w' => e = .returned (.bool true) ∧ Ext w w') := by
  have hll := DS.list_len hok
  have HNM := hid (DS.list_nm hnm hok)
  have HL1 := hid (fun W (hW : Ext w W) => List_at (hd.below hW) hok)
  have HL2 := hid (fun W (hW : Ext w W) => RList_any (hr.below hW) hok (by omega))
  have HU1 := hid (fun W (hW : Ext w W) => Used_at (hd.below hW) hok ho)
  have hu2 := fun W (hW : Ext w W) => RUsed_any (hr.below hW) hok (by omega)
  have HR1 := hid (fun (f : Nm) (hf : f.length ≤ 32) W (hW : Ext w W) => Read_at (hd.below hW) f (by unfold maxLen; omega))
  have HR2 := hid (fun (f : Nm) (hf : f.length ≤ 32) W (hW : Ext w W) => RRead2_any (hr.below hW) hok (by omega) f (by unfold maxLen; omega))
  rw [ho] at hu2
  have HU2 := hid (fun W (hW : Ext w W) => (show Calls Tryz.prog 69 #[.pointer (some ⟨rg, 0, none⟩)] W (fun e w' => e = .returned (.int .i64 (d.used : Int)) ∧ Ext W w') from hu2 W hW))
  obtain ⟨U, hU⟩ : ∃ U, U = d.used := ⟨_, rfl⟩
  rw [← hU] at HU1 HU2
  unfold ListPost at HL1 HL2
  obtain ⟨L, hL⟩ : ∃ L, L = d.list := ⟨_, rfl⟩
  rw [← hL] at HL1 HL2 HNM hll
  clear hd hr hok hnm ho hc hu2 hU hL
  go_enter Tryz.func31, Tryz.ntmps31
  go_wp2_with fail
  refine Calls.mono (HL1.out w (Below.refl _ _)) ?_
  rintro e w1 ⟨v1, rfl, hrow1, hx1⟩
  obtain ⟨a1, c1, rfl, hrc1, hcell1⟩ := row_str hrow1
  have HC1 := hid hcell1
  have HX1 := hid hx1
  clear hrow1 hcell1 hx1
  go_wp2_with fail
  refine Calls.mono (HL2.out w1 HX1.out) ?_
  rintro e w2 ⟨v2, rfl, hrow2, hx2⟩
  obtain ⟨a2, c2, rfl, hrc2, hcell2⟩ := row_str hrow2
  have HEQ := hid (strEq_any (w := w2) (a1 := a1) (a2 := a2) (c1 := c1) (c2 := c2) (L := L) (by omega) (fun k hk => by
    obtain ⟨b, h1, -, h3, h4⟩ := HC1.out k hk
    exact ⟨b, h1, (hx2.cell (p := ⟨b, k, none⟩) h3).trans h4⟩) (fun k hk => by
    obtain ⟨b, h1, -, h3, h4⟩ := hcell2 k hk
    exact ⟨b, h1, h4⟩))
  have HX2 := hid (HX1.out.trans' hx2)
  clear hrow2 hcell2 hx2
  go_wp2_with fail
  refine Calls.mono HEQ.out ?_
  rintro e w3 ⟨rfl, hx3⟩
  have HX3 := hid (HX2.out.trans' hx3)
  clear hx3
  go_wp2_with fail
  refine Calls.mono (HU1.out w3 HX3.out) ?_
  rintro e w4 ⟨rfl, hx4⟩
  have HX4 := hid (HX3.out.trans' hx4)
  clear hx4
  go_wp2_with fail
  refine Calls.mono (HU2.out w4 HX4.out) ?_
  rintro e w5 ⟨rfl, hx5⟩
  have HX5 := hid (HX4.out.trans' hx5)
  clear hx5 hrc1 hrc2
  go_wp2_with fail
  refine Calls.mono (HL2.out w5 HX5.out) ?_
  rintro e w6 ⟨v6, rfl, hrow6, hx6⟩
  obtain ⟨a6, c6, rfl, hrc6, hcell6⟩ := row_str hrow6
  have HC6 := hid hcell6
  have HX6 := hid (HX5.out.trans' hx6)
  clear hrow6 hcell6 hx6
  go_wp2
  go_loopw [6, 7, 8, 9, 10, 27] (fun _ _ _ _ _ z wr => ∃ (k : Nat), k ≤ L.length ∧ z = .int .i64 (k : Int) ∧ Hid (Ext w6 wr)) (fun _ _ _ _ _ z _ => L.length - (intOf z).toNat)
  case atStart => exact ⟨0, Nat.zero_le _, rfl, Below.refl _ _⟩
  obtain ⟨k, hk, rfl, HF⟩ := hrel
  by_cases hlt : k < L.length
  · obtain ⟨rb, hra, hrB, hrl, hcw⟩ := HC6.out k hlt
    subst hra
    have hcr := (HF.out.cell (p := ⟨rb, k, none⟩) hrl).trans hcw
    have hfm := HNM.out L[k] (List.getElem_mem _)
    obtain ⟨f, hf⟩ : ∃ f, f = L[k] := ⟨_, rfl⟩
    rw [← hf] at hcr hfm
    have HA := hid (HR1.out f hfm wr (HX6.out.trans' HF.out))
    have HB := hid (HR2.out f hfm)
    clear hcw hrB hrl hf hfm
    go_wp2_with fail
    refine Calls.mono HA.out ?_
    rintro e w7 ⟨x7, n7, c7, rfl, hb7, hx7⟩
    have HB7 := hid hb7
    have HX7 := hid (HF.out.trans' hx7)
    clear hb7 hx7
    go_wp2_with fail
    refine Calls.mono (HB.out w7 (HX6.out.trans' HX7.out)) ?_
    rintro e w8 ⟨x8, n8, c8, rfl, hb8, hx8⟩
    have hbe := beq_any (HB7.out.below hx8) hb8
    rw [show ((d.read f).1 == (d.read f).1) = true from by simp] at hbe
    have HBE := hid hbe
    have HX8 := hid (HX7.out.trans' hx8)
    clear hb8 hx8 hbe
    go_wp2_with fail
    refine Calls.mono HBE.out ?_
    rintro e w9 ⟨rfl, rfl⟩
    go_wp2
    go_roundw
    case rel => exact ⟨k + 1, by omega, by go_num, HX8.out⟩
    case measure => simp [intOf]; omega
  have hkL : k = L.length := by omega
  clear hkL
  go_wp2
  go_ret
  exact ⟨rfl, HX6.out.trans' HF.out⟩

set_option maxRecDepth 100000 in
set_option maxHeartbeats 8000000 in
theorem tells_any {G H : Nat → Prop} {w : World} {g rg dg rdg : Nat} {v : VS} (hv : VaO G w g v.s v.some dg) (hr : RVaO H w rg v.s v.some rdg) (hn : v.some = false → v.s = sn0) (hd : v.s.d.length ≤ 262144) :
    Calls Tryz.prog 30 #[.pointer (some ⟨g, 0, none⟩), .pointer (some ⟨rg, 0, none⟩)] w (fun e w' => e = .returned (.bool true) ∧ Ext w w') := by
  obtain ⟨vs, sm, vd⟩ := v
  dsimp only at *
  have HLA := hid (Last_w hv)
  have HPI := hid (fun (W : World) (hW : Ext w W) (k : Int) => Piece_any (v := ⟨vs, sm, vd⟩) (hv.below hW) k)
  have HPR := hid (fun (W : World) (hW : Ext w W) (k : Int) => RPiece_any (v := ⟨vs, sm, vd⟩) (hr.below hW) k)
  have HN := hid hn
  have HDL := hid hd
  have hrl := hr.lt
  obtain ⟨ra, rn, rc, qa, qn, qc, hob, hsn⟩ := hr
  have HOB := hid hob
  have HSN := hid hsn
  have HRL := hid hrl
  clear hv hn hd hob hsn hrl
  go_enter Tryz.func30, Tryz.ntmps30
  go_wp2_with fail
  refine Calls.mono HLA.out ?_
  rintro e w1 ⟨lv, rfl, hsv, hx1, hdw⟩
  obtain ⟨z0, z1, z2, da, dn, dc, rfl, hr8⟩ := hdw
  have HSV := hid hsv
  have HR8 := hid hr8
  have HX1 := hid hx1
  obtain ⟨sa, sk, sc, sb, sn, sd, hse, -, -, -, hby⟩ := hsv
  simp only [Value.agg.injEq, Array.mk.injEq, List.cons.injEq, and_true, Value.slice.injEq] at hse
  obtain ⟨rfl, rfl, rfl, rfl, rfl, rfl⟩ := hse
  have hdn : dn ≤ 262144 := by rw [hby.1]; exact HDL.out
  have H5 := hid (show (w1.alloc (.cells #[.int .i64 vs.i, .int .i64 vs.t, .slice sa sk sc, .slice da dn dc] 25)).heap[w1.heap.size]? = _ from heap_alloc_new w1 _)
  clear hr8 hx1 hby HLA
  go_upto_region 3 with fail
  have hx2 := ext_alloc w1 (.cells #[.int .i64 vs.i, .int .i64 vs.t, .slice sa sk sc, .slice da dn dc] 25)
  have hz2 : (w1.alloc (.cells #[.int .i64 vs.i, .int .i64 vs.t, .slice sa sk sc, .slice da dn dc] 25)).heap.size = w1.heap.size + 1 := World.size_alloc ..
  generalize w1.alloc (.cells #[.int .i64 vs.i, .int .i64 vs.t, .slice sa sk sc, .slice da dn dc] 25) = w2 at *
  have hx3 := ext_alloc w2 (.cells #[.int .i64 0, .int .i64 0, .slice none 0 0, .slice none 0 0] 25)
  have hz3 : (w2.alloc (.cells #[.int .i64 0, .int .i64 0, .slice none 0 0, .slice none 0 0] 25)).heap.size = w2.heap.size + 1 := World.size_alloc ..
  have h7 := heap_alloc_new w2 (.cells #[.int .i64 0, .int .i64 0, .slice none 0 0, .slice none 0 0] 25)
  generalize w2.alloc (.cells #[.int .i64 0, .int .i64 0, .slice none 0 0, .slice none 0 0] 25) = w3 at *
  rw [hz2] at h7
  obtain ⟨p5, hp5⟩ : ∃ p5, p5 = w1.heap.size := ⟨_, rfl⟩
  obtain ⟨p7, hp7⟩ : ∃ p7, p7 = w1.heap.size + 1 := ⟨_, rfl⟩
  rw [← hp7] at h7 ⊢
  rw [← hp5] at H5 ⊢
  have HPP := hid (show p5 = w1.heap.size ∧ p7 = w1.heap.size + 1 ∧ w3.heap.size = w1.heap.size + 2 ∧ w.heap.size ≤ w1.heap.size from ⟨hp5, hp7, by omega, HX1.out.size⟩)
  have HP5 := hid ((hx3.block p5 (Array.getElem?_eq_some_iff.1 H5.out).1).trans H5.out)
  have HP7 := hid h7
  have HX3 := hid (HX1.out.trans' (hx2.trans' hx3))
  have HR8 := hid (HR8.out.keep (w' := w3) (E := fun q => w.heap.size ≤ q ∧ q < w1.heap.size) (fun q hq hl => ⟨hq, (hx2.trans' hx3).block q hl⟩) (hx2.trans' hx3).size)
  have HSV := hid (HSV.out.below (hx2.trans' hx3))
  have hob3 := (HX3.out.block rg HRL.out).trans HOB.out
  have HOB3 := hid hob3
  obtain ⟨⟨g0, g1, g2, g3, g4, g5⟩, -, hgl⟩ := cells6 hob3
  obtain ⟨-, ⟨f0, f1, f2, f3⟩, hl7⟩ := cells4 h7
  obtain ⟨⟨e0, e1, e2, e3⟩, -, -⟩ := cells4 h7
  clear hx2 hz2 hx3 hz3 h7 hp5 hp7 hob3 H5
  go_upto_if 27 with fail
  go_cut [] (fun wx => ∃ y0 y1 y2 ya yn yc, Hid (wx.heap[p7]? = some (.cells #[y0, y1, y2, .slice ya yn yc] 25 (0, 0))) ∧ Hid (SnV (fun q => q < w.heap.size) wx (.agg #[y0, y1, y2, .slice ya yn yc]) vs) ∧ Hid (Frm (fun q => q = p7) w3 wx))
  case first =>
    cases sm with
    | false =>
      go_wp2
      go_meet
      refine ⟨_, _, _, _, _, _, HP7.out, ?_, Frm.refl _ _⟩
      rw [HN.out (by trivial)]
      exact SnV.zero2 _ _
    | true =>
      go_wp2
      go_meet
      have hS := four_set2 HP7.out (.int .i64 vs.i) (.int .i64 vs.t) (.slice ra rn rc) (.slice qa qn qc)
      refine ⟨_, _, _, _, _, _, hS.obj, ?_, hS.frm⟩
      exact HSN.out.keep fun q hq hl => ⟨hl, (hS.frm.block q (Nat.lt_of_lt_of_le hl HX3.out.size) (by show ¬ q = p7; have := HPP.out; omega)).trans (HX3.out.block q hl)⟩
  case rest =>
    obtain ⟨y0, y1, y2, ya, yn, yc, HY, HYS, HYF⟩ := hcut
    clear g0 g1 g2 g3 g4 g5 hgl f0 f1 f2 f3 hl7 e0 e1 e2 e3
    have hob4 := (HYF.out.block rg (Array.getElem?_eq_some_iff.1 HOB3.out).1 (by show ¬ rg = p7; have := HPP.out; have := HRL.out; omega)).trans HOB3.out
    have hp54 := (HYF.out.block p5 (Array.getElem?_eq_some_iff.1 HP5.out).1 (by show ¬ p5 = p7; have := HPP.out; omega)).trans HP5.out
    obtain ⟨⟨g0, g1, g2, g3, g4, g5⟩, -, -⟩ := cells6 hob4
    obtain ⟨⟨c0, c1, c2, c3⟩, -, -⟩ := cells4 hp54
    obtain ⟨⟨e0, e1, e2, e3⟩, -, -⟩ := cells4 HY.out
    have HP54 := hid hp54
    have hsame := Same_any (HSV.out.keep (w' := wc) (G := fun q => w.heap.size ≤ q ∧ q < w1.heap.size) fun q hq hl => ⟨hq, HYF.out.block q hl (by show ¬ q = p7; have := HPP.out; have := hq.2; omega)⟩) HYS.out
    rw [sameS_iff.2 rfl] at hsame
    have HSAME := hid hsame
    have hbb : (sm == sm) = true := by simp
    have HXC := hid (show Ext w wc from ext_frm HX3.out HYF.out fun q hq => by rw [hq]; have := HPP.out; omega)
    clear hob4 hp54 hsame
    go_wp2_with fail
    refine Calls.mono HSAME.out ?_
    rintro e w5 ⟨rfl, hx5⟩
    have hp55 := (hx5.block p5 (Array.getElem?_eq_some_iff.1 HP54.out).1).trans HP54.out
    have hp75 := (hx5.block p7 (Array.getElem?_eq_some_iff.1 HY.out).1).trans HY.out
    have HP55 := hid hp55
    have HP75 := hid hp75
    have HX5 := hid (HXC.out.trans' hx5)
    have HR5 := hid (((HR8.out.keep (w' := wc) (E := fun q => w.heap.size ≤ q ∧ q < w1.heap.size) (fun q hq hl => ⟨hq, HYF.out.block q hl (by show ¬ q = p7; have := HPP.out; have := hq.2; omega)⟩) HYF.out.size).keep (w' := w5) (E := fun q => w.heap.size ≤ q ∧ q < w1.heap.size) (fun q hq hl => ⟨hq, hx5.block q hl⟩) hx5.size))
    have HYL := hid (show yn = vs.d.length by obtain ⟨_, _, _, _, _, _, he, -, -, -, hb⟩ := HYS.out; simp only [Value.agg.injEq, Array.mk.injEq, List.cons.injEq, and_true, Value.slice.injEq] at he; obtain ⟨-, -, -, rfl, rfl, rfl⟩ := he; exact hb.1)
    have hyn : yn ≤ 262144 := by have := HYL.out; have := HDL.out; omega
    clear g0 g1 g2 g3 g4 g5 c0 c1 c2 c3 e0 e1 e2 e3 hx5 hp55 hp75
    obtain ⟨⟨c0, c1, c2, c3⟩, -, -⟩ := cells4 HP55.out
    go_wp2
    go_loopw [9, 46] (fun _ z W => ∃ k : Nat, k ≤ dn ∧ z = .int .i64 (k : Int) ∧ Hid (Row8 (fun q => w.heap.size ≤ q ∧ q < w1.heap.size) W da dn) ∧ Hid (Frm (fun q => w.heap.size ≤ q ∧ q < w1.heap.size) w5 W)) (fun _ z _ => dn - (intOf z).toNat)
    case atStart => exact ⟨0, by omega, rfl, HR5.out, Frm.refl _ _⟩
    obtain ⟨k3, hk3, rfl, HRK, HFK⟩ := hrel
    clear c0 c1 c2 c3
    by_cases hlt3 : k3 < dn
    · obtain ⟨b3, v3, rfl, hD3, hbl3, c3, f3⟩ := HRK.out k3 hlt3
      obtain ⟨⟨-, -, -, c4⟩, -, -⟩ := cells4 ((HFK.out.block p5 (Array.getElem?_eq_some_iff.1 HP55.out).1 (fun h => by have h1 := HPP.out; have h2 := h.2; omega)).trans HP55.out)
      have hk0 : (0 : Int) ≤ (k3 : Int) := by omega
      have hk1 : (k3 : Int) < (dn : Int) := by omega
      have HD3 := hid hD3
      clear hD3
      go_wp2
      go_roundw
      case rel => exact ⟨k3 + 1, by omega, by go_num, hid (HRK.out.set hlt3 _), hid (HFK.out.trans (frm_set (D := fun q => w.heap.size ≤ q ∧ q < w1.heap.size) HD3.out _) fun q hq => .inl hq)⟩
      case measure => simp [intOf]; omega
    have hp76 := (HFK.out.block p7 (Array.getElem?_eq_some_iff.1 HP75.out).1 (fun h => by have h1 := HPP.out; have h2 := h.2; omega)).trans HP75.out
    obtain ⟨⟨e0, e1, e2, e3⟩, -, -⟩ := cells4 hp76
    have HX6 := hid (show Ext w wr from ext_frm HX5.out HFK.out fun q hq => hq.1)
    have m1 : IntKind.i64.wrap ((yn : Int) - 1) = (yn : Int) - 1 := IntWalk.i64_in _ ⟨by omega, by omega⟩
    have m2 : IntKind.i64.wrap ((yn : Int) + 1) = (yn : Int) + 1 := IntWalk.i64_in _ ⟨by omega, by omega⟩
    have hki3 : ¬ (k3 : Int) < (dn : Int) := by omega
    clear hlt3 hp76
    generalize wr = wz at *
    go_wp2
    have hrow := rnews_row wz [.int .i64 0, .int .i64 1, .int .i64 512, .int .i64 ((yn : Int) - 1), .int .i64 (yn : Int), .int .i64 ((yn : Int) + 1), .int .i64 (-1)] 7 1 3 rfl
    have hx7 := ext_alloc wz (.cells #[.int .i64 0, .int .i64 1, .int .i64 512, .int .i64 ((yn : Int) - 1), .int .i64 (yn : Int), .int .i64 ((yn : Int) + 1), .int .i64 (-1)] 3)
    generalize wz.alloc (.cells #[.int .i64 0, .int .i64 1, .int .i64 512, .int .i64 ((yn : Int) - 1), .int .i64 (yn : Int), .int .i64 ((yn : Int) + 1), .int .i64 (-1)] 3) = w7 at *
    obtain ⟨pb, hpb⟩ : ∃ pb, pb = wz.heap.size := ⟨_, rfl⟩
    rw [← hpb] at hrow ⊢
    have HROW := hid (fun (k : Nat) (hk : k < 7) => (show ∃ x, w7.cell? ⟨pb, k, none⟩ = some (.int .i64 x) from by
      have h := fun j u hu => hrow.2.2 _ rfl j u hu
      simp only [add_lit, Nat.zero_add] at h
      match k, hk with
      | 0, _ => exact ⟨_, h 0 _ rfl⟩
      | 1, _ => exact ⟨_, h 1 _ rfl⟩
      | 2, _ => exact ⟨_, h 2 _ rfl⟩
      | 3, _ => exact ⟨_, h 3 _ rfl⟩
      | 4, _ => exact ⟨_, h 4 _ rfl⟩
      | 5, _ => exact ⟨_, h 5 _ rfl⟩
      | 6, _ => exact ⟨_, h 6 _ rfl⟩
      | m + 7, h => omega))
    have HX7 := hid (HX6.out.trans' hx7)
    clear hrow hx7 hpb m1 m2 e0 e1 e2 e3
    go_loopw [8, 11, 12, 13, 14, 15, 16, 17, 70] (fun s _ _ _ _ _ _ _ z W => ∃ k : Nat, k ≤ 7 ∧ z = .int .i64 (k : Int) ∧ s = .bool true ∧ Hid (Ext w7 W)) (fun _ _ _ _ _ _ _ _ z _ => 7 - (intOf z).toNat)
    case atStart => exact ⟨0, by omega, rfl, rfl, Below.refl _ _⟩
    obtain ⟨k, hk, rfl, rfl, HF⟩ := hrel
    by_cases hlt : k < 7
    · obtain ⟨x, hcx⟩ := HROW.out k hlt
      have hcx2 := (HF.out.cell (p := ⟨pb, k, none⟩) (World.block_lt_of_cell? _ _ hcx)).trans hcx
      obtain ⟨r, hr⟩ : ∃ r, r = pieceS ⟨vs, sm, vd⟩ x := ⟨_, rfl⟩
      have HA := hid (HPI.out wr (HX7.out.trans' HF.out) x)
      have HB := hid (fun W hW => HPR.out W hW x)
      rw [← hr] at HA HB
      obtain ⟨pd, don, er⟩ := r
      have hk0 : (0 : Int) ≤ (k : Int) := by omega
      have hk1 : (k : Int) < 7 := by omega
      clear hcx hr
      go_wp2_with fail
      refine Calls.mono HA.out ?_
      rintro e w8 ⟨x8, n8, c8, rfl, hb8, hx8⟩
      have HB8 := hid hb8
      have HX8 := hid (HF.out.trans' hx8)
      clear hb8 hx8
      go_wp2_with fail
      refine Calls.mono (HB.out w8 (HX7.out.trans' HX8.out)) ?_
      rintro e w9 ⟨x9, n9, c9, rfl, hb9, rfl⟩
      have hbe := beq_any HB8.out hb9
      dsimp only at hbe
      rw [show (pd == pd) = true from by simp] at hbe
      have HBE := hid hbe
      have hdd : (don == don) = true := by simp
      have hee : ((er : Int) == er) = true := by simp
      clear hb9 hbe
      go_wp2_with fail
      refine Calls.mono HBE.out ?_
      rintro e w10 ⟨rfl, rfl⟩
      go_wp2
      go_roundw
      case rel => exact ⟨k + 1, by omega, by go_num, rfl, HX8.out⟩
      case measure => simp [intOf]; omega
    have hki : ¬ (k : Int) < 7 := by omega
    go_wp2
    go_ret
    exact ⟨rfl, HX7.out.trans' HF.out⟩
end Go.Proofs.YtjapeaoebjmpnaaGreatDoor

/- What holds of a vault whatever is played: plain. -/
namespace Go.Proofs.YtjapeaoebjmpnaaGreatDoor
open Go.RowKit Go.Maps
set_option linter.unusedVariables false
set_option linter.unusedSimpArgs false

def mayA : ActS → Prop
  | .write n _ _ => mayS n = true
  | .trim n _ => mayS n = true
  | .move _ n => mayS n = true
  | .drop _ => True
def MayT (T : Tab) : Prop := ∀ p ∈ T, mayS p.1 = true
theorem MayT.put {T : Tab} (h : MayT T) {n : Nm} (hn : mayS n = true) (b : By) : MayT (tPut T n b) := fun p hp => by
  rcases tPut_mem.1 hp with e | e
  · rw [e]; exact hn
  exact h p e.1
theorem MayT.del {T : Tab} (h : MayT T) (n : Nm) : MayT (tDel T n) := fun p hp => h p (tDel_mem.1 hp).1
theorem MayT.run {T : Tab} (h : MayT T) {a : ActS} (ha : mayA a) : MayT (a.run T) := by
  cases a with
  | write n k b => exact h.put ha _
  | trim n k => exact h.put ha _
  | move o n => exact (h.del o).put ha _
  | drop n => exact h.del n
theorem mayA_cut (a : ActS) (q : Nat) (h : mayA a) : mayA (a.cut q) := by cases a <;> exact h
structure MayD (d : DS) : Prop where
  last : MayT d.last
  acts : ∀ a ∈ d.acts, mayA a
theorem runAll_may : ∀ (l : List ActS) (T : Tab), (∀ a ∈ l, mayA a) → MayT T → MayT (runAll T l) := by
  intro l
  induction l with
  | nil => intro T _ h; exact h
  | cons a l ih => intro T ha h; exact ih _ (fun b hb => ha b (List.mem_cons_of_mem _ hb)) (h.run (ha a (List.mem_cons_self ..)))
theorem MayD.seen {d : DS} (h : MayD d) (hok : d.Ok) : MayT d.seen := by rw [hok.seen]; exact runAll_may _ _ h.acts h.last
theorem MayD.nms {d : DS} (h : MayD d) : d.Nms := fun p hp => (mayS_len (h.last p hp)).2
theorem MayD.fall {d : DS} (h : MayD d) (keep tear : Int) : MayD (d.fall keep tear) := ⟨runAll_may _ _ (lasts_all mayA_cut h.acts keep tear) h.last, fun a ha => by cases ha⟩
theorem MayD.hit {d : DS} (h : MayD d) : MayD d.hit.2 := by
  unfold DS.hit
  split
  · exact h
  exact ⟨h.last, h.acts⟩
theorem MayD.does {d : DS} (h : MayD d) {a : ActS} (ha : mayA a) : MayD (d.does a).2 := by
  have h1 : MayD { d with seen := a.run d.seen, acts := d.acts ++ [a] } := ⟨h.last, fun b hb => by
    rcases List.mem_append.1 hb with hb | hb
    · exact h.acts b hb
    rw [List.mem_singleton] at hb; rw [hb]; exact ha⟩
  unfold DS.does
  dsimp only
  split
  · exact h1.hit.fall _ _
  exact h1.hit
theorem find_may {d : DS} {n : Nm} (h : d.find n = 21 ∨ d.find n = 0) : mayS n = true := by
  cases hm : mayS n with
  | true => rfl
  | false =>
    unfold DS.find at h
    split at h
    · omega
    first
      | omega
      | (rw [if_pos hm] at h; omega)
theorem MayD.write {d : DS} (h : MayD d) (n : Nm) (k : Int) (b : By) : MayD (d.write n k b).2 := by
  unfold DS.write
  split
  · rename_i h1
    have hm := find_may (.inl h1.1)
    split
    · exact h
    split
    · exact h
    exact h.does (a := .write n 0 b) hm
  split
  · exact h
  rename_i h1
  have hm := find_may (d := d) (n := n) (.inr (by simpa using h1))
  split
  · exact h
  split
  · exact h
  exact h.does (a := .write n k.toNat b) hm
theorem MayD.drop {d : DS} (h : MayD d) (n : Nm) : MayD (d.drop n).2 := by
  unfold DS.drop
  split
  · exact h
  exact h.does (a := .drop n) trivial
theorem MayD.move {d : DS} (h : MayD d) (o n : Nm) : MayD (d.move o n).2 := by
  unfold DS.move
  split
  · exact h
  split
  · exact h
  rename_i hm
  exact h.does (a := .move o n) (by show mayS n = true; simpa using hm)
theorem MayD.sync {d : DS} (h : MayD d) (hok : d.Ok) : MayD d.sync.2 := by
  unfold DS.sync
  split
  · exact h
  split
  · exact h.hit.fall _ _
  exact ⟨h.seen hok, fun a ha => by cases ha⟩
theorem MayD.arm {d : DS} (h : MayD d) (n keep tear : Int) : MayD (d.arm n keep tear).2 := by
  unfold DS.arm
  split
  · exact h
  exact ⟨h.last, h.acts⟩
theorem MayD.crash {d : DS} (h : MayD d) (keep tear : Int) : MayD (d.crash keep tear).2 := by
  unfold DS.crash
  split
  · exact h
  exact h.fall _ _
theorem MayD.start {d : DS} (h : MayD d) : MayD d.start := ⟨h.last, h.acts⟩
theorem MayD.lay : ∀ (L : List By) (k : Nat) {d : DS}, MayD d → MayD (layS k L d).2 := by
  intro L
  induction L with
  | nil => intro k d h; exact h
  | cons b r ih =>
    intro k d h
    rw [layS_cons]
    split
    · exact h.write _ _ _
    exact ih _ (h.write _ _ _)
theorem MayD.three {d : DS} (h : MayD d) (hok : d.Ok) (n : Nm) : MayD (threeS d n).2 := by
  unfold threeS
  split
  · exact h.sync hok
  split
  · exact (h.sync hok).move _ _
  exact ((h.sync hok).move _ _).sync (hok.sync.move _ _)
theorem MayD.save {v : VS} (h : MayD v.d) (hok : v.d.Ok) (s : Sn) : MayD (saveS v s).2.d := by
  have hl := h.lay (partsB s) 0
  have ho := layS_ok (partsB s) 0 hok
  unfold saveS
  split
  · exact h
  split
  · exact h
  split
  · dsimp only
    split
    · exact (hl.drop _).sync (ho.drop _)
    exact hl
  split
  · exact hl.three ho _
  split
  · exact (hl.three ho _).drop _
  exact hl.three ho _
theorem MayD.drops : ∀ (l : List Nm) (k : Sn × Bool) {d : DS}, MayD d → MayD (dropsS k l d).2 := by
  intro l
  induction l with
  | nil => intro k d h; exact h
  | cons f r ih =>
    intro k d h
    unfold dropsS
    split
    · split
      · exact h.drop f
      exact ih k (h.drop f)
    exact ih k h
theorem MayD.open_ {d : DS} (h : MayD d) (hok : d.Ok) : MayD (openS d).2 := by
  unfold openS
  split
  · exact h.drops _ _
  exact (h.drops _ _).sync (dropsS_ok _ _ hok)
theorem openS_ok {d : DS} (hok : d.Ok) : (openS d).2.Ok := by
  unfold openS
  split
  · exact dropsS_ok _ _ hok
  exact (dropsS_ok _ _ hok).sync
theorem openS_acts (d : DS) (hok : d.Ok) : (openS d).2.acts.length ≤ d.acts.length + 4096 := by
  have h1 := dropsS_acts d.list (kept d) d
  have h2 := DS.list_len hok
  have h3 := DS.sync_acts (dropsS (kept d) d.list d).2
  unfold openS
  split <;> omega
/-- A vault that opens on a calm disk. -/
theorem open_on {d : DS} (hok : d.Ok) (hm : MayD d) (ho : d.off = false) (hl : d.left = 0) : (openS d).1 = 0 ∧ (openS d).2.off = false := by
  have h1 := open_calm ho hl hok.run.1 (hm.seen hok)
  have hli : d.list = d.seen.map Prod.fst := by unfold DS.list; rw [if_neg (by rw [ho]; simp)]
  have hr := hok.run.1
  obtain ⟨h2, h3, h4⟩ := dropsS_calm (kept d) d.list d ho hl hr (by
    rw [hli, List.pairwise_map]
    exact hr.ne) (fun f hf => by
    rw [hli] at hf
    obtain ⟨p, hp, rfl⟩ := List.mem_map.1 hf
    exact ⟨hm.seen hok p hp, p.2, hr.get hp⟩)
  refine ⟨h1, ?_⟩
  unfold openS
  rw [if_neg (by rw [h2]; simp), sync_calm h3 h4]
  exact h3
theorem kept_no (d : DS) : ∀ (l : List Nm) (k : Sn × Bool), (k.2 = false → k.1 = sn0) → (l.foldl (keepS d) k).2 = false → (l.foldl (keepS d) k).1 = sn0 := by
  intro l
  induction l with
  | nil => intro k h; exact h
  | cons f l ih =>
    intro k h
    refine ih _ ?_
    unfold keepS
    split
    · split
      · split
        · intro e; cases e
        exact h
      exact h
    exact h
theorem saveS_more (v : VS) (s : Sn) : (saveS v s).2.d.acts.length ≤ v.d.acts.length + 600 := by
  by_cases hc : checkS s = 0
  · have h1 := layS_acts (partsB s) 0 v.d
    have h2 := (partsB_len hc).1
    have h3 := DS.drop_acts (layS 0 (partsB s) v.d).2 freshS
    have h4 := DS.sync_acts ((layS 0 (partsB s) v.d).2.drop freshS).2
    have h5 := threeS_acts (layS 0 (partsB s) v.d).2 (nameB s.i)
    have h6 := DS.drop_acts (threeS (layS 0 (partsB s) v.d).2 (nameB s.i)).2 (nameB v.s.i)
    unfold saveS
    split
    · dsimp only; omega
    split
    · dsimp only; omega
    split
    · dsimp only
      split <;> omega
    split
    · dsimp only; omega
    split <;> (dsimp only; omega)
  unfold saveS; rw [if_pos hc]; dsimp only; omega
theorem saveS_state (v : VS) (s : Sn) : ((saveS v s).2.s = v.s ∧ (saveS v s).2.some = v.some) ∨ ((saveS v s).2.s = s ∧ (saveS v s).2.some = true ∧ checkS s = 0) := by
  by_cases hc : checkS s = 0
  · unfold saveS
    split
    · exact .inl ⟨rfl, rfl⟩
    split
    · exact .inl ⟨rfl, rfl⟩
    split
    · exact .inl ⟨rfl, rfl⟩
    split
    · exact .inl ⟨rfl, rfl⟩
    split
    · exact .inr ⟨rfl, rfl, hc⟩
    exact .inr ⟨rfl, rfl, hc⟩
  unfold saveS; rw [if_pos hc]; exact .inl ⟨rfl, rfl⟩
/-- What holds of the vault that is played with. -/
structure Play (v : VS) : Prop where
  ok : v.d.Ok
  may : MayD v.d
  s : v.some = true → checkS v.s = 0
  none : v.some = false → v.s = sn0
theorem Play.vok {v : VS} (h : Play v) : v.Ok := ⟨h.ok, h.s⟩
theorem Play.len {v : VS} (h : Play v) : v.s.d.length ≤ 262144 := by
  cases hs : v.some with
  | true => exact (checkS_ok (h.s hs)).2.2.2.2.2
  | false => rw [h.none hs]; decide
theorem Play.save {v : VS} (h : Play v) (s : Sn) : Play (saveS v s).2 := by
  refine ⟨saveS_ok h.ok s, h.may.save h.ok s, fun e => ?_, fun e => ?_⟩
  · rcases saveS_state v s with ⟨h1, h2⟩ | ⟨h1, h2, h3⟩
    · rw [h1]; exact h.s (by rw [← h2]; exact e)
    rw [h1]; exact h3
  rcases saveS_state v s with ⟨h1, h2⟩ | ⟨h1, h2, h3⟩
  · rw [h1]; exact h.none (by rw [← h2]; exact e)
  rw [h2] at e; cases e
theorem Play.open_ {d : DS} (hok : d.Ok) (hm : MayD d) : Play ⟨(kept d).1, (kept d).2, (openS d).2⟩ :=
  ⟨openS_ok hok, hm.open_ hok, kept_ok d d.list (sn0, false) (by simp), kept_no d d.list (sn0, false) (fun _ => rfl)⟩
end Go.Proofs.YtjapeaoebjmpnaaGreatDoor
