/- The walk of WalStays. -/
import Derived.Test.YtikjckdoldiddaaGreatDoorCWk1
namespace Go.Proofs.YtikjckdoldiddaaGreatDoor
open Go.RowKit Go.Maps
set_option linter.unusedVariables false
set_option linter.unusedSimpArgs false
attribute [local go_sem] bmax2 bmin2 bmax_two bmin_two

theorem room_in (x : Int) : 0 ≤ wrap64 ((IntKind.u64.wrap x).tmod 1048576) ∧ wrap64 ((IntKind.u64.wrap x).tmod 1048576) ≤ 16777216 := by
  have h : 0 ≤ IntKind.u64.wrap x := by rw [IntKind.wrap_u64]; omega
  have h1 := Int.tmod_nonneg 1048576 h
  have h2 := Int.tmod_lt_of_pos (IntKind.u64.wrap x) (show (0 : Int) < 1048576 by decide)
  unfold wrap64
  omega
/-- Views that were kept, while a disk, or a log, changed its own. -/
theorem VsR.frm {D : Nat → Prop} {B : Nat} {w w' : World} {val : Value} {L : List Wv} (h : VsR (fun q => ¬ D q) B w val L) (ho : ∀ q, val.ownBlock = some q → ¬ D q) (hf : Frm D w w') :
    VsR (fun q => ¬ Go.Proofs.YtikjckdoldiddaaGreatDoor.grow D w w' q) B w' val L ∧ ∀ q, val.ownBlock = some q → ¬ Go.Proofs.YtikjckdoldiddaaGreatDoor.grow D w w' q := by
  have hout : ∀ q, ¬ D q → q < w.heap.size → ¬ Go.Proofs.YtikjckdoldiddaaGreatDoor.grow D w w' q := fun q hq hl h => by
    rcases h with h | h
    · exact hq h
    omega
  exact ⟨h.keep (fun q hq => hf.block q (h.at_ q hq).2 (ho q hq)) fun q hq hl => ⟨hout q hq hl, hf.block q hl hq⟩, fun q hq => hout q (ho q hq) (h.at_ q hq).2⟩
set_option maxRecDepth 100000 in
set_option maxHeartbeats 8000000 in
theorem WalStays_calls {w : World} (room : Int) (hrm : In64 room) {a : Option Addr} {n c : Nat} {D : List DoW} (hD : DosF (fun _ => True) w a n c D) (keep : Int) (hkp : In64 keep) (tear : Int) (htr : In64 tear) (hT : TabP w) :
    Calls Tryz.prog 10 #[.int .i64 room, .slice a n c, .int .i64 keep, .int .i64 tear] w (Answer w) := by
  have HS := hid (short_any hD)
  have HD := hid hD.own
  have H64 := hid hD.t64
  have HT := hid hT
  have HAW := hid (fun W (hW : Ext w W) => awake_any (hT.ext hW))
  obtain ⟨rm, hrme⟩ : ∃ rm, rm = wrap64 ((IntKind.u64.wrap room).tmod 1048576) := ⟨_, rfl⟩
  obtain ⟨hr0, hr1⟩ : 0 ≤ rm ∧ rm ≤ 16777216 := by rw [hrme]; exact room_in room
  have HRM := hid (And.intro hr0 hr1)
  have HRE := hid hrme
  have HBG := hid (begun_any hT (room := rm) hr0 hr1)
  have HK := hid (And.intro hkp htr)
  clear hD hT hkp htr hrm hr0 hr1 hrme
  go_enter Tryz.func10, Tryz.ntmps10
  go_wp2_with fail
  refine Calls.mono HS.out ?_
  rintro e w ⟨bb, rfl, hbb, rfl⟩
  cases bb with
  | false =>
    clear hbb
    go_wp2_with fail
    refine Calls.mono (HAW.out w (Below.refl _ _)) ?_
    rintro e w1 ⟨rfl, hx⟩
    have HX := hid hx
    clear hx
    go_wp2
    go_ret
    exact ⟨rfl, HX.out⟩
  | true =>
    obtain ⟨hD60, hDW⟩ := hbb rfl
    obtain ⟨b1, b2, b3, b4⟩ := began (room := rm) HRM.out.1 HRM.out.2 H64.out hD60 hDW
    have HBE := hid (And.intro b1 (And.intro b2 (And.intro b3 b4)))
    have HDB := hid (And.intro hD60 hDW)
    clear hbb hD60 hDW b1 b2 b3 b4 HS
    go_wp2_with fail
    rw [← HRE.out]
    refine Calls.mono HBG.out ?_
    rintro e w1 ⟨dg, g, A1, rfl, hl1, hA1, hx1⟩
    have hpl := play_any hl1 (lo0_fit (room := rm) HRM.out.1 HRM.out.2) (by decide) (by decide) (HD.out.below hx1) (fun q hq hA => by have := hA1 q hA; omega) HDB.out.1 HDB.out.2 (HT.out.ext hx1) (pow_fresh HT.out hA1)
    have HPL := hid hpl
    have HX1 := hid hx1
    have HA1 := hid hA1
    clear hl1 hA1 hx1 hpl HBG
    go_wp2_with fail
    refine Calls.mono HPL.out ?_
    rintro e w2 ⟨val, rfl, hpi⟩
    obtain ⟨hx2, A2, hl2, hA2, hvs2, hvo2⟩ := hpi.fresh HX1.out HA1.out
    obtain ⟨v, hv⟩ : ∃ v, v = playV (lo0 rm) [(lo0 rm).s.v] D := ⟨_, rfl⟩
    have hbe := HBE.out
    rw [← hv] at hl2 hbe hvs2
    obtain ⟨g1, g2, g3, g4⟩ := hbe
    obtain ⟨cr, crd, crg, -, -⟩ := crash_of g1 g4 keep tear
    obtain ⟨D2, G2, hd2, -, hD2, -, -, -⟩ := hl2.parts
    have hDf : ∀ q, D2 q → w.heap.size ≤ q := fun q hq => hA2 q (hD2 q hq).1
    have hcr := Crash_at hd2 g1.ok (by have := g4.acts; omega) keep tear HK.out.1 HK.out.2
    rw [cr] at hcr
    have HVS2 := hid (show VsR (fun q => ¬ D2 q) w1.heap.size w2 val v.2 from hvs2.keep (fun _ _ => rfl) fun q hq _ => ⟨fun h => hq (hD2 q h).1, rfl⟩)
    have HVO2 := hid (show ∀ q, val.ownBlock = some q → ¬ D2 q from fun q hq h => hvo2 q hq (hD2 q h).1)
    have HCR := hid hcr
    have HX2 := hid hx2
    have HDF := hid hDf
    have HCD := hid crd
    have HCG := hid crg
    clear hpi hx2 hl2 hA2 g1 g2 g3 g4 cr crd crg hd2 hD2 hDf hcr hvs2 hvo2 HPL HA1 HX1 HBE
    go_wp2_with fail
    refine Calls.mono HCR.out ?_
    rintro e w3 hp
    obtain ⟨hx3, hd3, hD3⟩ := DoPost.ext HX2.out HDF.out hp
    obtain ⟨rfl, hp1, hp2⟩ := hp
    obtain ⟨hvs3, hvo3⟩ := HVS2.out.frm HVO2.out hp2
    have HVS3 := hid hvs3
    have HVO3 := hid hvo3
    have HST := hid (Start_at hd3)
    have HX3 := hid hx3
    have HD3 := hid hD3
    clear hx3 hd3 hD3 hp1 hp2 hvs3 hvo3 HCR HX2 HDF HVS2 HVO2
    go_wp2_with fail
    refine Calls.mono HST.out ?_
    rintro e w4 hp
    obtain ⟨hx4, hd4, hD4⟩ := DoPost.ext HX3.out HD3.out hp
    obtain ⟨rfl, hp1, hp2⟩ := hp
    obtain ⟨hvs4, hvo4⟩ := HVS3.out.frm HVO3.out hp2
    have HVS4 := hid hvs4
    have HVO4 := hid hvo4
    dsimp only at hd4
    obtain ⟨s0, hg0, hV0⟩ := HCG.out
    have HOP := hid (open_at hd4 HCD.out.ok HCD.out.calm HCD.out.on (by decide) hg0 hV0 (by rw [HCD.out.acts]; exact Nat.zero_le _) (HT.out.ext hx4) (pow_fresh HT.out hD4))
    have HX4 := hid hx4
    have HD4 := hid hD4
    clear hx4 hd4 hD4 hg0 hV0 hp1 hp2 hvs4 hvo4 HST HX3 HD3 HVS3 HVO3
    go_wp2_with fail
    refine Calls.mono HOP.out ?_
    rintro e w5 ⟨ga, sa, da, rfl, hla, hfa, hga, hin, hgood, hfit, hacts, hlast, -, -⟩
    have hx5 : Ext w w5 := ext_frm HX4.out hfa HD4.out
    obtain ⟨hvs5, hvo5⟩ := HVS4.out.frm HVO4.out hfa
    have HVS5 := hid hvs5
    have HVA := hid (view_any hla)
    have HX5 := hid hx5
    have HIN := hid (show sa.v ∈ v.2 from hin)
    clear hla hfa hga hgood hfit hlast hx5 hin hacts hvs5 hvo5 HOP HX4 HD4 HVS4 HVO4
    go_wp2_with fail
    refine Calls.mono HVA.out ?_
    rintro e w6 ⟨a6, n6, c6, rfl, he6, hx6⟩
    have hx67 : Ext w6 (w6.alloc (.cells #[.int .i64 sa.v.ht, .int .i64 sa.v.hv, .int .i64 sa.v.i, .int .i64 sa.v.t, .slice a6 n6 c6] 42)) := ext_alloc _ _
    have hvc : VcAt (w6.alloc (.cells #[.int .i64 sa.v.ht, .int .i64 sa.v.hv, .int .i64 sa.v.i, .int .i64 sa.v.t, .slice a6 n6 c6] 42)) w6.heap.size sa.v := ⟨a6, n6, c6, heap_alloc_new w6 _, (he6.below hx67).more fun _ _ => trivial⟩
    have hvs7 := HVS5.out.ext (hx6.trans' hx67)
    have HCO := hid (conV_any hvs7 hvs7.len hvc)
    have HX7 := hid ((HX5.out.trans' hx6).trans' hx67)
    clear he6 hx6 hx67 hvc hvs7 HVA HVS5 HX5
    unfold vwV
    go_wp2_with fail
    refine Calls.mono HCO.out ?_
    rintro e w8 ⟨bb, rfl, hbb, hx8⟩
    have hbt : bb = true := hbb.2 HIN.out
    subst hbt
    have HX8 := hid (HX7.out.trans' hx8)
    clear hbb hx8 HCO
    go_wp2_with fail
    refine Calls.mono (HAW.out w8 HX8.out) ?_
    rintro e w12 ⟨rfl, hx12⟩
    have HX12 := hid (HX8.out.trans' hx12)
    clear hx12
    go_wp2
    go_ret
    exact ⟨rfl, HX12.out⟩
end Go.Proofs.YtikjckdoldiddaaGreatDoor
