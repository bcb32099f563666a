/- The walk of Pending; the walk of WalAgain. -/
import Derived.Test.YtikjckdoldiddaaGreatDoorC34
namespace Go.Proofs.YtikjckdoldiddaaGreatDoor
open Go.RowKit Go.Maps
set_option linter.unusedVariables false
set_option linter.unusedSimpArgs false
attribute [local go_sem] bmax2 bmin2 bmax_two bmin_two

theorem Pending_at {D : Nat → Prop} {w : World} {g : Nat} {s : DS} (h : DiskAt D w g s) (ho : s.off = false) :
    Calls Tryz.prog 35 #[.pointer (some ⟨g, 0, none⟩)] w fun e w' => e = .returned (.int .i64 (s.acts.length : Int)) ∧ w' = w := by
  obtain ⟨ms, ml, av, H, h⟩ := h
  obtain ⟨c0, -, -, -, -, c5, c6, c7, -, hgl⟩ := h.cells
  have hlen := h.acts.len
  have hrd := ready_any c0 c5
  rw [ho] at hrd
  obtain ⟨a, c, rfl, hHc, hac⟩ := h.av_form
  have HR := hid hrd
  rw [← hlen]
  clear hrd h hlen c0 c5 ho
  go_enter Tryz.func35, Tryz.ntmps35
  go_wp2_with fail
  refine Calls.mono HR.out ?_
  rintro e w1 ⟨rfl, rfl⟩
  go_wp2
  go_ret
  exact ⟨rfl, rfl⟩
def Answer (w : World) (e : Ending) (w' : World) : Prop := e = .returned (.bool true) ∧ Ext w w'
theorem DosF.own {F : Nat → Prop} {w : World} {a : Option Addr} {n c : Nat} {D : List DoW} (h : DosF F w a n c D) : DosF (fun q => q < w.heap.size) w a n c D := h.keep fun k _ hl => ⟨hl, rfl⟩
set_option maxRecDepth 100000 in
set_option maxHeartbeats 8000000 in
theorem WalAgain_calls {w : World} {a : Option Addr} {n c : Nat} {D : List DoW} (hD : DosF (fun _ => True) w a n c D) (keep : Int) (hkp : In64 keep) (tear : Int) (htr : In64 tear) (hT : TabP w) :
    Calls Tryz.prog 8 #[.slice a n c, .int .i64 keep, .int .i64 tear] w (Answer w) := by
  have HS := hid (short_any hD)
  have HD := hid hD.own
  have H64 := hid hD.t64
  have HT := hid hT
  have HAW := hid (fun W (hW : Ext w W) => awake_any (hT.ext hW))
  have HBG := hid (begun_any hT (room := 16777216) (by decide) (by decide))
  have HK := hid (And.intro hkp htr)
  clear hD hT hkp htr
  go_enter Tryz.func8, Tryz.ntmps8
  go_wp2_with fail
  refine Calls.mono HS.out ?_
  rintro e w ⟨bb, rfl, hbb, rfl⟩
  cases bb with
  | false =>
    clear hbb
    go_wp2_with fail
    refine Calls.mono (HAW.out w (Below.refl _ _)) ?_
    rintro e w1 ⟨rfl, hx⟩
    have HX := hid hx
    clear hx
    go_wp2
    go_ret
    exact ⟨rfl, HX.out⟩
  | true =>
    obtain ⟨hD60, hDW⟩ := hbb rfl
    obtain ⟨b1, b2, b3, b4⟩ := began (room := 16777216) (by decide) (by decide) H64.out hD60 hDW
    have HBE := hid (And.intro b1 (And.intro b2 (And.intro b3 b4)))
    have HDB := hid (And.intro hD60 hDW)
    clear hbb hD60 hDW b1 b2 b3 b4 HS
    go_wp2_with fail
    refine Calls.mono HBG.out ?_
    rintro e w1 ⟨dg, g, A1, rfl, hl1, hA1, hx1⟩
    have hpl := play_any hl1 (lo0_fit (room := 16777216) (by decide) (by decide)) (by decide) (by decide) (HD.out.below hx1) (fun q hq hA => by have := hA1 q hA; omega) HDB.out.1 HDB.out.2 (HT.out.ext hx1) (pow_fresh HT.out hA1)
    have HPL := hid hpl
    have HX1 := hid hx1
    have HA1 := hid hA1
    clear hl1 hA1 hx1 hpl HBG
    go_wp2_with fail
    refine Calls.mono HPL.out ?_
    rintro e w2 ⟨val, rfl, hpi⟩
    obtain ⟨hx2, A2, hl2, hA2, -, -⟩ := hpi.fresh HX1.out HA1.out
    obtain ⟨v, hv⟩ : ∃ v, v = playV (lo0 16777216) [(lo0 16777216).s.v] D := ⟨_, rfl⟩
    have hbe := HBE.out
    rw [← hv] at hl2 hbe
    obtain ⟨g1, g2, g3, g4⟩ := hbe
    obtain ⟨cr, crd, crg, -, -⟩ := crash_of g1 g4 keep tear
    obtain ⟨D2, G2, hd2, -, hD2, -, -, -⟩ := hl2.parts
    have hDf : ∀ q, D2 q → w.heap.size ≤ q := fun q hq => hA2 q (hD2 q hq).1
    have hcr := Crash_at hd2 g1.ok (by have := g4.acts; omega) keep tear HK.out.1 HK.out.2
    rw [cr] at hcr
    have HCR := hid hcr
    have HX2 := hid hx2
    have HDF := hid hDf
    have HCD := hid crd
    have HCG := hid crg
    clear hpi hx2 hl2 hA2 g1 g2 g3 g4 cr crd crg hd2 hD2 hDf hcr HPL HA1 HX1 HBE
    go_wp2_with fail
    refine Calls.mono HCR.out ?_
    rintro e w3 hp
    obtain ⟨hx3, hd3, hD3⟩ := DoPost.ext HX2.out HDF.out hp
    obtain ⟨rfl, -, -⟩ := hp
    have HST := hid (Start_at hd3)
    have HX3 := hid hx3
    have HD3 := hid hD3
    clear hx3 hd3 hD3 HCR HX2 HDF
    go_wp2_with fail
    refine Calls.mono HST.out ?_
    rintro e w4 hp
    obtain ⟨hx4, hd4, hD4⟩ := DoPost.ext HX3.out HD3.out hp
    obtain ⟨rfl, -, -⟩ := hp
    dsimp only at hd4
    obtain ⟨s0, hg0, hV0⟩ := HCG.out
    have HOP := hid (open_at hd4 HCD.out.ok HCD.out.calm HCD.out.on (by decide) hg0 hV0 (by rw [HCD.out.acts]; exact Nat.zero_le _) (HT.out.ext hx4) (pow_fresh HT.out hD4))
    have HX4 := hid hx4
    have HD4 := hid hD4
    clear hx4 hd4 hD4 hg0 hV0 HST HX3 HD3
    go_wp2_with fail
    refine Calls.mono HOP.out ?_
    rintro e w5 ⟨ga, sa, da, rfl, hla, hfa, hga, -, hgood, hfit, hacts, hlast, -, -⟩
    have hx5 : Ext w w5 := ext_frm HX4.out hfa HD4.out
    have hA5 : ∀ q, Go.Proofs.YtikjckdoldiddaaGreatDoor.grow _ w4 w5 q → w.heap.size ≤ q := fun q hq => by
      rcases hq with hq | hq
      · exact HD4.out q hq
      have := HX4.out.size; omega
    obtain ⟨D5, G5, hX5, hD5, hG5, -⟩ := LoX.of hla
    have HPE := hid (Pending_at hX5.1 hgood.calm.1)
    have hD5f : ∀ q, D5 q → w.heap.size ≤ q := fun q hq => hA5 q (hD5 q hq)
    have hcr2 := Crash_at hX5.1 hgood.ok (by show da.acts.length < _; rw [hacts]; decide) 0 0 ⟨by decide, by decide⟩ ⟨by decide, by decide⟩
    obtain ⟨cr2, crd2, -, -, -⟩ := crash_of hgood hfit 0 0
    dsimp only at cr2 crd2 hcr2
    rw [cr2] at hcr2
    have hgr2 : Gr ((da.fall 0 0).start).seen sa := by rw [fall_none]; show Gr da.last sa; rw [hlast]; exact hgood.gd.gr
    have HCR2 := hid hcr2
    have HCD2 := hid crd2
    have HGR2 := hid hgr2
    have HX5 := hid hx5
    have HD5F := hid hD5f
    have HLX := hid hX5
    have HAC := hid hacts
    clear hla hfa hga hgood hfit hlast hx5 hA5 hX5 hD5 hG5 hD5f hcr2 cr2 crd2 hgr2 HOP HX4 HD4 hacts
    go_wp2_with fail
    refine Calls.mono HPE.out ?_
    rintro e w5 ⟨rfl, rfl⟩
    have hal : da.acts.length = 0 := by rw [HAC.out]; rfl
    dsimp only
    rw [hal]
    clear hal
    go_wp2_with fail
    refine Calls.mono HCR2.out ?_
    rintro e w6 hp
    have hlx6 := LoX.disk (s := sa) (d := da.fall 0 0) HLX.out.2.1 HLX.out.2.2.1 HLX.out.2.2.2 HLX.out.2.1.lt (Below.refl _ _) hp.2.1 hp.2.2
    obtain ⟨hx6, -, -⟩ := DoPost.ext HX5.out HD5F.out hp
    obtain ⟨rfl, -, -⟩ := hp
    obtain ⟨⟨D6, hD6s, hX6⟩, hf6⟩ := hlx6
    have hD6 : ∀ q, D6 q → w.heap.size ≤ q := fun q hq => by
      rcases hD6s q hq with h | h
      · exact HD5F.out q h
      have := HX5.out.size; omega
    have HST2 := hid (Start_at hX6.1)
    have HX6 := hid hx6
    have HLX6 := hid hX6
    have HD6 := hid hD6
    clear hx6 hD6s hX6 hf6 hD6 HCR2 HLX HX5 HD5F HPE
    go_wp2_with fail
    refine Calls.mono HST2.out ?_
    rintro e w7 hp
    have hlx7 := LoX.disk (s := sa) (d := (da.fall 0 0).start) HLX6.out.2.1 HLX6.out.2.2.1 HLX6.out.2.2.2 HLX6.out.2.1.lt (Below.refl _ _) hp.2.1 hp.2.2
    obtain ⟨hx7, -, -⟩ := DoPost.ext HX6.out HD6.out hp
    obtain ⟨rfl, -, -⟩ := hp
    obtain ⟨⟨D7, hD7s, hX7⟩, hf7⟩ := hlx7
    have hD7 : ∀ q, D7 q → w.heap.size ≤ q := fun q hq => by
      rcases hD7s q hq with h | h
      · exact HD6.out q h
      have := HX6.out.size; omega
    have HOP2 := hid (open_at (V := fun u => u = sa.v) hX7.1 HCD2.out.ok HCD2.out.calm HCD2.out.on (by decide) HGR2.out rfl (by show (da.fall 0 0).start.acts.length ≤ _; rw [HCD2.out.acts]; exact Nat.zero_le _) (HT.out.ext hx7) (pow_fresh HT.out hD7))
    have HX7 := hid hx7
    have HLX7 := hid hX7
    have HD7 := hid hD7
    clear hx7 hD7s hX7 hf7 hD7 HST2 HLX6 HX6 HD6
    go_wp2_with fail
    refine Calls.mono HOP2.out ?_
    rintro e w8 ⟨gb, sb, db, rfl, hlb, hfb, hgb, hvb, -, -, -, -, -, -⟩
    have hx8 : Ext w w8 := ext_frm HX7.out hfb HD7.out
    obtain ⟨D8, G8, hX8, hD8, hG8, -⟩ := LoX.of hlb
    obtain ⟨e1, e2, e3, e4⟩ := HLX7.out
    have hXa : LoX D8 G5 w8 ga dg ⟨sa, db⟩ := by
      refine ⟨hX8.1, e2.keep (hfb.block ga e2.lt fun h => (e3 ga h).1 rfl) fun q hq hl => ⟨hq, hfb.block q hl fun h => (e3 q h).2 hq⟩, fun q hq => ?_, fun q hq => ⟨(e4 q hq).1, Nat.lt_of_lt_of_le (e4 q hq).2 hfb.size⟩⟩
      rcases hD8 q hq with h | h
      · exact e3 q h
      exact ⟨fun e => by have := e2.lt; omega, fun h2 => by have := (e4 q h2).2; omega⟩
    have hlt8 := hXa.1.lt
    have hLa : LoAt (fun q => q < w8.heap.size) w8 ga dg ⟨sa, db⟩ := hXa.at_ (fun q hq => hlt8 q hq) (fun q hq => (hXa.2.2.2 q hq).2) hXa.2.1.lt fun q hq => hq
    have HVA := hid (view_any hLa)
    have HVB := hid (fun W (hW : Ext w8 W) => view_any (hlb.below hW))
    have HX8 := hid hx8
    have HVE := hid hvb
    clear hlb hfb hgb hvb hx8 hX8 hD8 hG8 e1 e2 e3 e4 hXa hlt8 hLa HOP2 HLX7 HX7 HD7
    go_wp2_with fail
    refine Calls.mono HVA.out ?_
    rintro e w9 ⟨a9, n9, c9, rfl, he9, hx9⟩
    have HX9 := hid (HX8.out.trans' hx9)
    have HX89 := hid hx9
    have HE9 := hid he9
    clear hx9 he9 HVA
    go_wp2_with fail
    refine Calls.mono (HVB.out w9 HX89.out) ?_
    rintro e w10 ⟨a10, n10, c10, rfl, he10, hx10⟩
    have HSA := hid (sameV_any (HE9.out.below hx10) he10)
    have HX10 := hid (HX9.out.trans' hx10)
    clear hx10 he10 HVB HE9
    go_wp2_with fail
    refine Calls.mono HSA.out ?_
    rintro e w11 ⟨bb, rfl, hbb, hx11⟩
    have hbt : bb = true := hbb.2 (by show sa.v = sb.v; rw [HVE.out])
    subst hbt
    have HX11 := hid (HX10.out.trans' hx11)
    clear hbb hx11 HSA
    go_wp2_with fail
    refine Calls.mono (HAW.out w11 HX11.out) ?_
    rintro e w12 ⟨rfl, hx12⟩
    have HX12 := hid (HX11.out.trans' hx12)
    clear hx12
    go_wp2
    go_ret
    exact ⟨rfl, HX12.out⟩
end Go.Proofs.YtikjckdoldiddaaGreatDoor
