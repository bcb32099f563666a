/- The walk of Open. Printed by gen_vo1.py. -/
import Derived.Test.YtjapeaoebjmpnaaGreatDoorB16
namespace Go.Proofs.YtjapeaoebjmpnaaGreatDoor
open Go.RowKit Go.Maps
set_option linter.unusedVariables false
set_option linter.unusedSimpArgs false
attribute [local go_sem] bmax2 bmin2 bmax_two bmin_two

def OpenPost (D : Nat → Prop) (dg : Nat) (r : Int × DS) (ks : Sn × Bool) (w : World) (e : Ending) (w' : World) : Prop :=
  (r.1 ≠ 0 ∧ e = .returned (.tuple #[.pointer none, .int .i64 r.1]) ∧ DiskAt (grow D w w') w' dg r.2 ∧ Frm D w w') ∨
  (r.1 = 0 ∧ ∃ g, e = .returned (.tuple #[.pointer (some ⟨g, 0, none⟩), .int .i64 0]) ∧ VaAt (grow D w w') w' g dg ⟨ks.1, ks.2, r.2⟩ ∧ Frm D w w')
theorem dropsS_go {ks : Sn × Bool} {f : Nm} {r : List Nm} {d : DS} (h : goesS ks f = true) : dropsS ks (f :: r) d = if (d.drop f).1 ≠ 0 then d.drop f else dropsS ks r (d.drop f).2 := by
  show (if _ then _ else _) = _
  rw [if_pos h]
theorem dropsS_stay {ks : Sn × Bool} {f : Nm} {r : List Nm} {d : DS} (h : goesS ks f = false) : dropsS ks (f :: r) d = dropsS ks r d := by
  show (if _ then _ else _) = _
  rw [if_neg (by rw [h]; simp)]
theorem read_len {d : DS} (hok : d.Ok) (f : Nm) : (d.read f).1.length ≤ 16777216 := by
  obtain ⟨-, -, h3, -, -⟩ := hok.run
  unfold DS.read
  split
  · simp
  exact Nat.le_trans (tOld_le _ _) h3
theorem SnV.zero2 (F : Nat → Prop) (w : World) : SnV F w (.agg #[.int .i64 sn0.i, .int .i64 sn0.t, .slice none 0 0, .slice none 0 0]) sn0 := SnV.zero F w
/-- What was known of the vault's block behind the first loop. -/
theorem open_done {D : Nat → Prop} {w w4 wy w6 wz : World} {g dg : Nat} {ks : Sn × Bool} {d : DS} (hx4 : Ext w w4) (hg : w.heap.size ≤ g) (hg4 : g < w4.heap.size) (hD : ∀ q, D q → q < w.heap.size) (hF : Frm (fun q => q = g) w4 wy)
    (hV : VaO (fun q => w4.heap.size ≤ q ∧ q < wy.heap.size) wy g ks.1 ks.2 dg) (hx6 : Ext wy w6) (hz : DiskAt (grow D w6 wz) wz dg d) (hFz : Frm D w6 wz) :
    VaAt (grow D w wz) wz g dg ⟨ks.1, ks.2, d⟩ ∧ DiskAt (grow D w wz) wz dg d ∧ Frm D w wz := by
  have z4 := hx4.size
  have zy := hF.size
  have z6 := hx6.size
  have zz := hFz.size
  have hl := hz.lt
  have hgr : ∀ q, grow D w wz q → q < wz.heap.size := fun q hq => by
    rcases hq with hq | hq
    · exact hl q (.inl hq)
    exact hq.2
  have hsub : ∀ q, grow D w6 wz q → grow D w wz q := fun q hq => by
    rcases hq with hq | hq
    · exact .inl hq
    exact .inr ⟨by omega, hq.2⟩
  refine ⟨⟨grow D w6 wz, _, hz, (hV.below hx6).keep (G := fun q => w4.heap.size ≤ q ∧ q < wy.heap.size) (hFz.block g (by omega) fun h => by have := hD g h; omega) (fun k hk h2 => ⟨hk, hFz.block k h2 fun h => by have := hD k h; have := hk.1; omega⟩), fun q hq => ⟨hsub q hq, ?_, ?_⟩, fun q hq => ⟨.inr ⟨by omega, by omega⟩, by omega⟩, .inr ⟨hg, by omega⟩, hgr⟩, hz.more hsub hgr, ?_⟩
  · rcases hq with hq | hq
    · have := hD q hq; omega
    omega
  · rintro ⟨h1, h2⟩
    rcases hq with hq | hq
    · have := hD q hq; omega
    omega
  exact (((Frm.of_ext hx4 D).trans hF fun q hq => .inr (by rw [hq]; exact hg)).then_ext hx6).trans hFz fun q hq => .inl hq

set_option maxRecDepth 100000 in
set_option maxHeartbeats 8000000 in
theorem Open_any {D : Nat → Prop} {w : World} {dg : Nat} {d : DS} (hd : DiskAt D w dg d) (hok : d.Ok) (hnm : d.Nms) (hc : d.acts.length ≤ 1000000000) (hT : TabP w) (hpow : ¬ D powG) :
    Calls Tryz.prog 24 #[.pointer (some ⟨dg, 0, none⟩)] w (OpenPost D dg (openS d) (kept d) w) := by
  have HD := hid hd
  have HDL := hid hd.lt
  have HOK := hid hok
  have HC := hid hc
  have HT := hid hT
  have HPOW := hid hpow
  have HCL := hid (Clone_at hd hok (by omega))
  have hll := DS.list_len hok
  have HNM := hid (DS.list_nm hnm hok)
  have hkept : kept d = d.list.foldl (keepS d) (sn0, false) := rfl
  have HLP := hid (fun W (hW : DiskAt D W dg d) => List_at hW hok)
  have hopen : openS d = if (dropsS (kept d) d.list d).1 ≠ 0 then dropsS (kept d) d.list d else (dropsS (kept d) d.list d).2.sync := rfl
  obtain ⟨ks, hks⟩ : ∃ ks, ks = kept d := ⟨_, rfl⟩
  unfold ListPost at HLP
  obtain ⟨L, hL⟩ : ∃ L, L = d.list := ⟨_, rfl⟩
  rw [← hks] at hkept hopen ⊢
  rw [← hL] at hll HNM hkept hopen HLP
  have HKS := hid hkept
  have HOPEN := hid hopen
  have HKO := hid (show ks.2 = true → checkS ks.1 = 0 by rw [hkept]; exact kept_ok d L _ (by simp))
  clear hd hok hnm hc hT hpow hkept hopen hks hL
  go_enter Tryz.func24, Tryz.ntmps24
  go_wp2_with fail
  refine Calls.mono HCL.out ?_
  rintro e w1 ⟨⟨p, rfl⟩, hx1⟩
  go_wp2_with fail
  have hx12 := ext_alloc w1 (.cells #[.int .i64 0, .int .i64 0, .slice none 0 0, .slice none 0 0, .bool false, .pointer (some ⟨dg, 0, none⟩)] 72)
  have hg2 := heap_alloc_new w1 (.cells #[.int .i64 0, .int .i64 0, .slice none 0 0, .slice none 0 0, .bool false, .pointer (some ⟨dg, 0, none⟩)] 72)
  have hz2 : (w1.alloc (.cells #[.int .i64 0, .int .i64 0, .slice none 0 0, .slice none 0 0, .bool false, .pointer (some ⟨dg, 0, none⟩)] 72)).heap.size = w1.heap.size + 1 := World.size_alloc ..
  generalize w1.alloc (.cells #[.int .i64 0, .int .i64 0, .slice none 0 0, .slice none 0 0, .bool false, .pointer (some ⟨dg, 0, none⟩)] 72) = w2 at *
  have hx2 := hx1.trans' hx12
  have hgw := hx1.size
  generalize w1.heap.size = g at *
  refine Calls.mono (HLP.out w2 (HD.out.below hx2)) ?_
  rintro e w4 ⟨v, rfl, hrow, hx4⟩
  obtain ⟨ra, rc, rfl, hrc, hcell⟩ := row_str hrow
  have HCELL := hid hcell
  have hx04 := hx2.trans' hx4
  have HX4 := hid hx04
  have HGW := hid hgw
  have HG4 := hid (show g < w4.heap.size by have := hx4.size; omega)
  have HZ2 := hid hz2
  have HV4 := hid (show VaO (fun q => w4.heap.size ≤ q ∧ q < w4.heap.size) w4 g sn0 false dg from ⟨none, 0, 0, none, 0, 0, (hx4.block g (by omega)).trans hg2, SnV.zero2 _ _⟩)
  clear hrow hcell hx1 hx12 hg2 hx2 hx04 hx4 hgw hz2 HCL
  go_wp2
  go_loopw [6, 7, 8, 9, 10, 24] (fun _ _ _ _ _ z wr => ∃ (k : Nat), k ≤ L.length ∧ z = .int .i64 (k : Int) ∧ Hid (VaO (fun q => w4.heap.size ≤ q ∧ q < wr.heap.size) wr g ((L.take k).foldl (keepS d) (sn0, false)).1 ((L.take k).foldl (keepS d) (sn0, false)).2 dg) ∧ Hid (Frm (fun q => q = g) w4 wr)) (fun _ _ _ _ _ z _ => L.length - (intOf z).toNat)
  case atStart => exact ⟨0, Nat.zero_le _, rfl, HV4.out, Frm.refl _ _⟩
  obtain ⟨k, hk, rfl, HV, HF⟩ := hrel
  have hg4 := HG4.out
  have HDr := hid ((HD.out.below HX4.out).frm HF.out fun q hq e => by have h1 := HDL.out q hq; have h2 := HGW.out; have h3 : q = g := e; omega)
  by_cases hlt : k < L.length
  · obtain ⟨rb, hra, hrB, hrl, hcw⟩ := HCELL.out k hlt
    subst hra
    have hcr := (HF.out.cell (p := ⟨rb, k, none⟩) hrl (by show ¬ rb = g; have := HZ2.out; omega)).trans hcw
    have hfold := take_fold d L hlt
    have hfm := HNM.out L[k] (List.getElem_mem _)
    obtain ⟨f, hf⟩ : ∃ f, f = L[k] := ⟨_, rfl⟩
    rw [← hf] at hcr hfold hfm
    obtain ⟨ka, hka⟩ : ∃ ka, ka = ((L.take k).foldl (keepS d) (sn0, false)) := ⟨_, rfl⟩
    rw [← hka] at HV hfold
    have HFO := hid hfold
    have HPF := hid (fun W => (show Calls Tryz.prog 59 #[.string ⟨f.toArray⟩, .string ⟨#[115, 110, 97, 112, 46]⟩] W (fun e w' => e = .returned (.bool (isSnap f)) ∧ w' = W) from Tryz.strings_HasPrefix ⟨f.toArray⟩ ⟨#[115, 110, 97, 112, 46]⟩ W))
    clear hcw hrB hrl hf hka hfold
    cases hsn : isSnap f with
    | false =>
      rw [hsn] at HPF
      have HS := hid hsn
      clear hsn
      go_wp2_with fail
      refine Calls.mono (HPF.out _) ?_
      rintro e w5 ⟨rfl, rfl⟩
      go_wp2
      go_roundw
      case rel => exact ⟨k + 1, by omega, by go_num, by
        rw [HFO.out]
        have e1 : keepS d ka f = ka := by unfold keepS; rw [if_neg (by rw [HS.out]; simp)]
        rw [e1]; exact HV.out, HF.out⟩
      case measure => simp [intOf]; omega
    | true =>
      rw [hsn] at HPF
      have HS := hid hsn
      clear hsn
      have HRD := hid (Read_at HDr.out f (by unfold maxLen; omega))
      go_wp2_with fail
      refine Calls.mono (HPF.out _) ?_
      rintro e w5 ⟨rfl, rfl⟩
      go_wp2_with fail
      refine Calls.mono HRD.out ?_
      rintro e w6 ⟨a6, n6, c6, rfl, hby, hx6⟩
      have HX6 := hid hx6
      have hn6 : n6 ≤ 16777216 := by rw [hby.1]; exact read_len HOK.out f
      have HRA := hid (read_any hby (by omega))
      obtain ⟨bts, hbts⟩ : ∃ bts, bts = (d.read f).1 := ⟨_, rfl⟩
      have HBT := hid hbts
      rw [← hbts] at HRA
      clear hby hx6 hbts hn6
      go_wp2_with fail
      refine Calls.mono HRA.out ?_
      rintro e w7 ⟨hx7, (⟨s, v7, hck, hfl, hsv, rfl⟩ | ⟨hno, rfl⟩)⟩
      · have HX7 := hid (HX6.out.trans' hx7)
        have hbig : w4.heap.size ≤ w6.heap.size := by have := HF.out.size; have := HX6.out.size; omega
        have HSV := hid (hsv.more (G := fun q => w4.heap.size ≤ q ∧ q < w7.heap.size) fun q hq => ⟨by omega, hq.2⟩)
        clear hbig
        obtain ⟨-, -, -, -, -, -⟩ := id (checkS_ok hck)
        obtain ⟨⟨i1, i2⟩, -, -, -, -, -⟩ := checkS_ok hck
        obtain ⟨na, nn, nc, ma, mn, mc, rfl, k1, k2, k3, k4⟩ := hsv
        have HKE := hid (show keepS d ka f = if f = nameB s.i then (s, true) else ka by
          unfold keepS
          rw [if_pos HS.out, ← HBT.out, ← hfl, readS_ok hck])
        have hx8 := ext_alloc w7 (.cells #[.int .i64 s.i, .int .i64 s.t, .slice na nn nc, .slice ma mn mc] 25)
        have HNA := hid (name_any ((((HT.out.ext HX4.out).keep (HF.out.block _ (by have := (HT.out.ext HX4.out).lt; exact this) (by show ¬ powG = g; have := HT.out.lt; have := HGW.out; omega))).ext HX7.out).ext hx8) (i := s.i) (by omega) i2)
        obtain ⟨nm, hnme⟩ : ∃ nm, nm = nameB s.i := ⟨_, rfl⟩
        rw [← hnme] at HNA HKE
        clear k1 k2 k3 k4 hck hfl hx7 i1 i2 hnme
        go_wp2_with fail
        refine Calls.mono HNA.out ?_
        rintro e w9 ⟨rfl, hx9⟩
        have HX9 := hid (hx8.trans' hx9)
        have HVr := hid (HV.out.below (HX7.out.trans' HX9.out))
        have hb8 := (hx9.block w7.heap.size (by simp)).trans (heap_alloc_new w7 (.cells #[.int .i64 s.i, .int .i64 s.t, .slice na nn nc, .slice ma mn mc] 25))
        obtain ⟨⟨s0, s1, s2, s3⟩, -, -⟩ := cells4 hb8
        clear hx8 hx9 hb8
        by_cases hfn : f = nm
        · have HK2 := hid (HKE.out.trans (if_pos hfn))
          have hfb : (f == nm) = true := by simpa using hfn
          clear hfn
          obtain ⟨va, vn, vc, da, dn, dc, hob, -⟩ := HVr.out
          have HOB := hid hob
          obtain ⟨⟨g0, g1, g2, g3, g4, g5⟩, ⟨f0, f1, f2, f3, f4, f5⟩, hgl⟩ := cells6 hob
          clear hob
          go_wp2
          have hS := (((((SetG.start HOB.out).step 0 (.int .i64 s.i)).step 1 (.int .i64 s.t)).step 2 (.slice na nn nc)).step 3 (.slice ma mn mc)).step 4 (.bool true)
          generalize ((((w9.setCell ⟨g, 0, none⟩ (.int .i64 s.i)).setCell ⟨g, 1, none⟩ (.int .i64 s.t)).setCell ⟨g, 2, none⟩ (.slice na nn nc)).setCell ⟨g, 3, none⟩ (.slice ma mn mc)).setCell ⟨g, 4, none⟩ (.bool true) = w10 at *
          go_roundw
          case rel => exact ⟨k + 1, by omega, by go_num, by
            rw [HFO.out, HK2.out]
            refine ⟨na, nn, nc, ma, mn, mc, hS.obj, (HSV.out.below HX9.out).keep fun q hq hl => ⟨⟨hq.1, ?_⟩, hS.frm.block q hl (by have := HG4.out; show ¬ q = g; omega)⟩⟩
            have := HX9.out.size; rw [hS.size]; omega, ((HF.out.then_ext HX7.out).then_ext HX9.out).trans hS.frm fun q hq => .inl hq⟩
          case measure => simp [intOf]; omega
        have HK2 := hid (HKE.out.trans (if_neg hfn))
        have hfb : (f == nm) = false := by simpa using hfn
        go_wp2
        go_roundw
        case rel => exact ⟨k + 1, by omega, by go_num, by
          rw [HFO.out, HK2.out]
          exact HVr.out.keep rfl fun q hq _ => ⟨⟨hq.1, by have := HX7.out.size; have := HX9.out.size; omega⟩, rfl⟩, (HF.out.then_ext HX7.out).then_ext HX9.out⟩
        case measure => simp [intOf]; omega
      have HX7 := hid (HX6.out.trans' hx7)
      have HKE := hid (show keepS d ka f = ka by
        unfold keepS
        rw [if_pos HS.out, ← HBT.out, readS_no hno])
      have HXA := hid (ext_alloc w7 (.cells #[.int .i64 0, .int .i64 0, .slice none 0 0, .slice none 0 0] 25))
      unfold snZero
      clear hx7 hno
      go_wp2
      go_roundw
      case rel => exact ⟨k + 1, by omega, by go_num, by
        rw [HFO.out, HKE.out]
        exact (HV.out.below (HX7.out.trans' HXA.out)).keep rfl fun q hq _ => ⟨⟨hq.1, by have := HX7.out.size; have := HXA.out.size; omega⟩, rfl⟩, (HF.out.then_ext HX7.out).then_ext HXA.out⟩
      case measure => simp [intOf]; omega
  have hkL : k = L.length := by omega
  have HKV := hid (show VaO (fun q => w4.heap.size ≤ q ∧ q < wr.heap.size) wr g ks.1 ks.2 dg by
    rw [HKS.out]
    have h1 := HV.out
    rw [hkL, List.take_of_length_le (Nat.le_refl _)] at h1
    exact h1)
  clear HV hkL HCELL hrc HV4
  generalize wr = wy at *
  go_wp2_with fail
  refine Calls.mono (HLP.out wy HDr.out) ?_
  rintro e w6 ⟨v2, rfl, hrow, hx6⟩
  obtain ⟨rb2, rc2, rfl, hrc2, hcell⟩ := row_str hrow
  have HCELL := hid hcell
  have HX6 := hid hx6
  have HT6 := hid (((HT.out.ext HX4.out).keep (HF.out.block _ (by have := (HT.out.ext HX4.out).lt; exact this) (by show ¬ powG = g; have := HT.out.lt; have := HGW.out; omega))).ext hx6)
  have HD6 := hid (HDr.out.below hx6)
  have HZW := hid (show w.heap.size ≤ wy.heap.size by have := HX4.out.size; have := HF.out.size; omega)
  clear hrow hcell hx6
  go_wp2
  go_loopw [12, 13, 59] (fun _ _ z wr => ∃ (k : Nat) (dk : DS), k ≤ L.length ∧ z = .int .i64 (k : Int) ∧ Hid (DiskAt (grow D w6 wr) wr dg dk) ∧ Hid (Frm D w6 wr) ∧ Hid (dk.Ok) ∧ Hid (dk.acts.length ≤ d.acts.length + k) ∧ Hid (dropsS ks L d = dropsS ks (L.drop k) dk)) (fun _ _ z _ => L.length - (intOf z).toNat)
  case atStart => exact ⟨0, d, Nat.zero_le _, rfl, HD6.out.more (fun q hq => .inl hq) (grow.lt HD6.out.lt (Nat.le_refl _)), Frm.refl _ _, HOK.out, Nat.le_refl _, rfl⟩
  obtain ⟨k2, dk, hk2, rfl, HDk, HFk, HOk, HAk, HLk⟩ := hrel
  by_cases hlt : k2 < L.length
  · obtain ⟨rb, hra, hrB, hrl, hcw⟩ := HCELL.out k2 hlt
    subst hra
    have hcr := (HFk.out.cell (p := ⟨rb, k2, none⟩) hrl (fun h => by have h1 := HDL.out _ h; have h2 := HZW.out; have h3 : wy.heap.size ≤ rb := hrB; simp at h1; omega)).trans hcw
    have hdr : L.drop k2 = L[k2] :: L.drop (k2 + 1) := List.drop_eq_getElem_cons hlt
    have hfm := HNM.out L[k2] (List.getElem_mem _)
    obtain ⟨f, hf⟩ : ∃ f, f = L[k2] := ⟨_, rfl⟩
    rw [← hf] at hcr hdr hfm
    have hLk := HLk.out
    rw [hdr] at hLk
    have HLK := hid hLk
    have HPF := hid (fun W => (show Calls Tryz.prog 59 #[.string ⟨f.toArray⟩, .string ⟨#[115, 110, 97, 112, 46]⟩] W (fun e w' => e = .returned (.bool (isSnap f)) ∧ w' = W) from Tryz.strings_HasPrefix ⟨f.toArray⟩ ⟨#[115, 110, 97, 112, 46]⟩ W))
    have hvr := (HKV.out.below HX6.out).keep (w' := wr) (G := fun _ => True) (HFk.out.block g (by have := HG4.out; have := HF.out.size; have := HX6.out.size; omega) fun h => by have := HDL.out g h; have := HGW.out; omega) (fun q hq h2 => ⟨trivial, HFk.out.block q h2 fun h => by have := HDL.out q h; have h3 := hq.1; have := HX4.out.size; omega⟩)
    obtain ⟨va, vn, vc, da, dn, dc, hob, -⟩ := hvr
    obtain ⟨⟨g0, g1, g2, g3, g4, g5⟩, -, hgl⟩ := cells6 hob
    have hac2 := DS.drop_acts dk f
    have hok2 := HOk.out.drop f
    have HDP := hid (fun W (hW : Ext wr W) => Drop_at (HDk.out.below hW) HOk.out (by have := HAk.out; have := HC.out; omega) f (by unfold maxLen; omega))
    obtain ⟨r, hr⟩ : ∃ r, r = dk.drop f := ⟨_, rfl⟩
    rw [← hr] at hac2 hok2 HDP
    have HR := hid hr
    have HAC2 := hid (show r.2.acts.length ≤ d.acts.length + (k2 + 1) by have := HAk.out; omega)
    have HOK2 := hid hok2
    obtain ⟨r1, r2⟩ := r
    dsimp only at HAC2 HOK2
    have HTr := hid (HT6.out.frm HFk.out HPOW.out)
    clear hcw hrB hrl hf hdr hLk hob hac2 hok2 hr g1 g2 g3 g5
    cases hsn : isSnap f with
    | false =>
      rw [hsn] at HPF
      have HS := hid hsn
      have HL2 := hid (HLK.out.trans (dropsS_stay (by unfold goesS; rw [hsn]; rfl)))
      clear hsn
      go_wp2_with fail
      refine Calls.mono (HPF.out _) ?_
      rintro e w5 ⟨rfl, rfl⟩
      go_wp2
      go_roundw
      case rel => exact ⟨k2 + 1, dk, by omega, by go_num, HDk.out, HFk.out, HOk.out, by have := HAk.out; exact hid (by omega), HL2.out⟩
      case measure => simp [intOf]; omega
    | true =>
      rw [hsn] at HPF
      have HS := hid hsn
      clear hsn
      cases hkb : ks.2 with
      | false =>
        rw [hkb] at g4
        have HKB := hid hkb
        clear hkb
        have HL2 := hid (HLK.out.trans (dropsS_go (by unfold goesS; rw [HS.out, HKB.out]; rfl)))
        rw [← HR.out] at HL2
        go_wp2_with fail
        refine Calls.mono (HPF.out _) ?_
        rintro e w5 ⟨rfl, rfl⟩
        go_wp2_with fail
        refine Calls.mono (HDP.out _ (Below.refl _ _)) ?_
        rintro e w8 hE
        have hN := DoPost.next HDk.out HFk.out (Below.refl _ _) hE
        obtain ⟨rfl, -, -⟩ := hE
        have HN := hid hN
        clear hN
        by_cases hr1 : r1 = 0
        · subst hr1
          have HL3 := hid (HL2.out.trans (if_neg (by simp)))
          go_wp2
          go_roundw
          case rel => exact ⟨k2 + 1, r2, by omega, by go_num, HN.out.2.1, HN.out.2.2, HOK2.out, HAC2.out, HL3.out⟩
          case measure => simp [intOf]; omega
        have hb : (r1 != 0) = true := by simpa using hr1
        have HR1 := hid hr1
        have HL3 := hid (HL2.out.trans (if_pos hr1))
        have HOP := hid (show openS d = (r1, r2) by rw [HOPEN.out, HL3.out, if_pos hr1])
        have HDN := hid (open_done HX4.out HGW.out HG4.out HDL.out HF.out HKV.out HX6.out HN.out.2.1 HN.out.2.2)
        clear hr1
        go_wp2
        go_ret2
        rw [HOP.out]
        exact .inl ⟨HR1.out, rfl, HDN.out.2.1, HDN.out.2.2⟩
      | true =>
        rw [hkb] at g4
        obtain ⟨⟨i1, i2⟩, -, -, -, -, -⟩ := checkS_ok (HKO.out hkb)
        have HKB := hid hkb
        have HNA := hid (name_any HTr.out (i := ks.1.i) (by omega) i2)
        obtain ⟨nm, hnme⟩ : ∃ nm, nm = nameB ks.1.i := ⟨_, rfl⟩
        rw [← hnme] at HNA
        have HNE := hid hnme
        clear i1 i2 hnme hkb
        by_cases hfn : f = nm
        · have HL2 := hid (HLK.out.trans (dropsS_stay (by unfold goesS; rw [HS.out, hfn, HNE.out, HKB.out]; simp)))
          have hfb : (f == nm) = true := by simpa using hfn
          have hfc : (f != nm) = false := by simpa using hfn
          clear hfn
          go_wp2_with fail
          refine Calls.mono (HPF.out _) ?_
          rintro e w5 ⟨rfl, rfl⟩
          go_wp2_with fail
          refine Calls.mono HNA.out ?_
          rintro e w7 ⟨rfl, hx7⟩
          have HX7 := hid hx7
          have hN := DoPost.next (D := D) (w := w6) HDk.out HFk.out HX7.out (op_same (z := 0) (HDk.out.below HX7.out) (Below.refl _ _))
          have HN := hid hN
          clear hx7 hN
          go_wp2
          go_roundw
          case rel => exact ⟨k2 + 1, dk, by omega, by go_num, HN.out.2.1, HN.out.2.2, HOk.out, by have := HAk.out; exact hid (by omega), HL2.out⟩
          case measure => simp [intOf]; omega
        have HL2 := hid (HLK.out.trans (dropsS_go (by unfold goesS; rw [HS.out, ← HNE.out]; simp [hfn])))
        have hfb : (f == nm) = false := by simpa using hfn
        have hfc : (f != nm) = true := by simpa using hfn
        rw [← HR.out] at HL2
        go_wp2_with fail
        refine Calls.mono (HPF.out _) ?_
        rintro e w5 ⟨rfl, rfl⟩
        go_wp2_with fail
        refine Calls.mono HNA.out ?_
        rintro e w7 ⟨rfl, hx7⟩
        have HX7 := hid hx7
        clear hx7
        go_wp2_with fail
        refine Calls.mono (HDP.out w7 HX7.out) ?_
        rintro e w8 hE
        have hN := DoPost.next HDk.out HFk.out HX7.out hE
        obtain ⟨rfl, -, -⟩ := hE
        have HN := hid hN
        clear hN
        by_cases hr1 : r1 = 0
        · subst hr1
          have HL3 := hid (HL2.out.trans (if_neg (by simp)))
          go_wp2
          go_roundw
          case rel => exact ⟨k2 + 1, r2, by omega, by go_num, HN.out.2.1, HN.out.2.2, HOK2.out, HAC2.out, HL3.out⟩
          case measure => simp [intOf]; omega
        have hb : (r1 != 0) = true := by simpa using hr1
        have HR1 := hid hr1
        have HL3 := hid (HL2.out.trans (if_pos hr1))
        have HOP := hid (show openS d = (r1, r2) by rw [HOPEN.out, HL3.out, if_pos hr1])
        have HDN := hid (open_done HX4.out HGW.out HG4.out HDL.out HF.out HKV.out HX6.out HN.out.2.1 HN.out.2.2)
        clear hr1
        go_wp2
        go_ret2
        rw [HOP.out]
        exact .inl ⟨HR1.out, rfl, HDN.out.2.1, HDN.out.2.2⟩
  have hkL : k2 = L.length := by omega
  have HL2 := hid (show dropsS ks L d = (0, dk) by rw [HLk.out, hkL, List.drop_of_length_le (Nat.le_refl _)]; rfl)
  have HOP := hid (show openS d = dk.sync by rw [HOPEN.out, HL2.out, if_neg (by simp)])
  have HSY := hid (Sync_at HDk.out HOk.out (by have := HAk.out; have := HC.out; omega))
  obtain ⟨r, hr⟩ : ∃ r, r = dk.sync := ⟨_, rfl⟩
  rw [← hr] at HSY HOP
  obtain ⟨r1, r2⟩ := r
  clear hkL hr HLk
  go_wp2_with fail
  refine Calls.mono HSY.out ?_
  rintro e w9 hE
  have hN := DoPost.next HDk.out HFk.out (Below.refl _ _) hE
  obtain ⟨rfl, -, -⟩ := hE
  have HDN := hid (open_done HX4.out HGW.out HG4.out HDL.out HF.out HKV.out HX6.out hN.2.1 hN.2.2)
  clear hN
  by_cases hr1 : r1 = 0
  · subst hr1
    go_wp2
    go_ret2
    rw [HOP.out]
    exact .inr ⟨rfl, g, rfl, HDN.out.1, HDN.out.2.2⟩
  have hb : (r1 != 0) = true := by simpa using hr1
  have HR1 := hid hr1
  clear hr1
  go_wp2
  go_ret2
  rw [HOP.out]
  exact .inl ⟨HR1.out, rfl, HDN.out.2.1, HDN.out.2.2⟩
end Go.Proofs.YtjapeaoebjmpnaaGreatDoor
