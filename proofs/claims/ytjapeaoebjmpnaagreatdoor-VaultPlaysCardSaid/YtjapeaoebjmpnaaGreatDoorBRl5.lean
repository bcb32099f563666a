/- The walk of VaultPlays. Printed by gen_rl5.py. -/
import Derived.Test.YtjapeaoebjmpnaaGreatDoorBRl4
namespace Go.Proofs.YtjapeaoebjmpnaaGreatDoor
open Go.RowKit Go.Maps
set_option linter.unusedVariables false
set_option linter.unusedSimpArgs false
attribute [local go_sem] bmax2 bmin2 bmax_two bmin_two
def remS (m : Int) (z : Int) : Int := (IntKind.u64.wrap z).tmod m
theorem remS_in {m : Int} (hm : 0 < m) (z : Int) : 0 ≤ remS m z ∧ remS m z < m := by
  have h0 : 0 ≤ IntKind.u64.wrap z := by rw [IntKind.wrap_u64]; omega
  have h3 := Int.tmod_lt_of_pos (IntKind.u64.wrap z) hm
  have h4 := Int.tmod_nonneg m h0
  unfold remS
  exact ⟨h4, h3⟩
theorem cells4s {W : World} {b : Nat} {x0 x1 x2 x3 : Value} {t : TypeId} (h : W.heap[b]? = some (.cells #[x0, x1, x2, x3] t (0, 0))) :
    W.cell? ⟨b, 0, none⟩ = some x0 ∧ W.cell? ⟨b, 1, none⟩ = some x1 ∧ W.cell? ⟨b, 2, none⟩ = some x2 ∧ W.cell? ⟨b, 3, none⟩ = some x3 := (cells4 h).1
set_option maxRecDepth 100000 in
set_option maxHeartbeats 8000000 in
theorem VaultPlays_calls {F : Nat → Prop} {w : World} (room : Int) (hroom : In64 room) {a : Option Addr} {n c : Nat} {l : List Kt} (hl : KtsF F w a n c l) (hT : TabP w) :
    Calls Tryz.prog 7 #[.int .i64 room, .slice a n c] w (fun e w' => e = .returned (.bool true) ∧ Ext w w') := by
  have HT := hid hT
  have HPL := hid hT.lt
  have HL := hid hl
  have HN := hid hl.1
  have hn63 : n ≤ 9223372036854775807 := by have h1 := hl.2.1; have h2 := hl.2.2.1; unfold maxLen at h2; omega
  have HSH := hid (short_any hl)
  have HA := hid (fun W (hW : Ext w W) => awake_any (hT.ext hW))
  obtain ⟨rm, hrm⟩ : ∃ rm, rm = remS 1048576 room := ⟨_, rfl⟩
  have hrm0 : 0 ≤ rm := by rw [hrm]; exact (remS_in (by decide) room).1
  have hrm1 : rm < 1048576 := by rw [hrm]; exact (remS_in (by decide) room).2
  have hrmt : (IntKind.u64.wrap room).tmod 1048576 = rm := by rw [hrm]; rfl
  have hrmw : IntKind.i64.wrap rm = rm := IntWalk.i64_in _ ⟨by omega, by omega⟩
  clear hl hT hrm hroom
  go_enter Tryz.func7, Tryz.ntmps7
  go_wp2_with fail
  refine Calls.mono HSH.out ?_
  rintro e w1 ⟨b, rfl, hb, hx1⟩
  have HX1 := hid hx1
  clear HSH hx1
  cases b with
  | false =>
    clear hb
    go_wp2_with fail
    refine Calls.mono (HA.out w1 HX1.out) ?_
    rintro e w2 ⟨rfl, hx2⟩
    go_wp2
    go_ret
    exact ⟨rfl, HX1.out.trans' hx2⟩
  | true =>
    have HSM := hid (show ∀ x ∈ l, x.s.d.length ≤ 65536 from fun x hx => (hb rfl).2 x hx)
    have HN40 := hid (show n ≤ 40 by have h1 := (hb rfl).1; have h2 := HN.out; omega)
    clear hb
    go_wp2_with fail
    refine Calls.mono (New_any rm w1) ?_
    rintro e w2 (⟨-, -, dg, rfl, hd2, hx2⟩ | ⟨hno, -⟩)
    case inr => exact absurd ⟨hrm0, by omega⟩ hno
    have HD2 := hid hd2
    have HX2 := hid hx2
    clear hd2 hx2
    go_wp2_with fail
    refine Calls.mono (RNew_any rm w2) ?_
    rintro e w3 (⟨-, -, rg, rfl, hr3, hrg, hx3⟩ | ⟨hno, -⟩)
    case inr => exact absurd ⟨hrm0, by omega⟩ hno
    have HX3 := hid (HX2.out.trans' hx3)
    obtain ⟨d0, hd0⟩ : ∃ d0, d0 = DS.new rm := ⟨_, rfl⟩
    have hok0 : d0.Ok := by rw [hd0]; exact DS.new_ok rm hrm0 (by omega)
    have hmy0 : MayD d0 := by rw [hd0]; exact ⟨(fun p hp => by cases hp), (fun p hp => by cases hp)⟩
    have hof0 : d0.off = false ∧ d0.left = 0 ∧ d0.acts.length = 0 := by rw [hd0]; exact ⟨rfl, rfl, rfl⟩
    have hduo : Duo (DkP dg d0) (RkP rg d0) (fun q => w1.heap.size ≤ q ∧ q < w3.heap.size) w3 := by
      have hz2 := hx3.size
      have hz1 := HX2.out.size
      refine ⟨DkP.keeps _ _, RkP.keeps _ _, grow (fun _ => False) w1 w2, fun q => q = rg, ?_, ?_, fun q hq => ?_, fun q hq => ?_, fun q hq => hq.2⟩
      · rw [hd0]; exact HD2.out.below hx3
      · rw [hd0]; exact hr3
      · rcases hq with hq | hq
        · exact hq.elim
        exact ⟨⟨hq.1, by omega⟩, fun h => by have := hq.2; omega⟩
      have := hr3.lt q hq
      exact ⟨by rw [show q = rg from hq]; omega, this⟩
    obtain ⟨ho1, ho2⟩ := open_on hok0 hmy0 hof0.1 hof0.2.1
    have HPL0 := hid (Play.open_ hok0 hmy0)
    have HON0 : Hid ((VS.mk (kept d0).1 (kept d0).2 (openS d0).2).d.off = false) := ho2
    have HAC0 : Hid ((VS.mk (kept d0).1 (kept d0).2 (openS d0).2).d.acts.length ≤ 5000) := hid (by have := openS_acts d0 hok0; show (openS d0).2.acts.length ≤ 5000; omega)
    have hop := hduo.openL hok0 hmy0.nms (by omega) (HT.out.ext (HX1.out.trans' HX3.out)) (fun h => by have h1 := h.1; have h2 := HPL.out; have h3 := HX1.out.size; omega) ho1
    have HROP := hid (fun (P : (Nat → Prop) → World → Prop) U W (h : Duo P (RkP rg d0) U W) => h.openR hok0 hmy0.nms (by omega) ho1)
    have HOP := hid hop
    clear hr3 hrg hx3 HD2 hd0 hok0 hmy0 hof0 hduo ho1 ho2 hop hrmt hrmw
    go_wp2_with fail
    refine Calls.mono HOP.out ?_
    rintro e w4 ⟨g4, rfl, hd4, hf4⟩
    have HX4 := hid (ext_frm HX3.out hf4 fun q hq => hq.1)
    have HU4 := hid (grow_ge (W := w3) (W' := w4) (n := w1.heap.size) (fun q (hq : w1.heap.size ≤ q ∧ q < w3.heap.size) => hq.1) HX3.out.size)
    generalize grow (fun q => w1.heap.size ≤ q ∧ q < w3.heap.size) w3 w4 = U4 at *
    have HROP4 := hid (HROP.out _ _ _ hd4)
    clear hd4 hf4 HOP HROP
    go_wp2_with fail
    refine Calls.mono HROP4.out ?_
    rintro e w5 ⟨g5, rfl, hd5, hf5⟩
    have HX5 := hid (ext_frm HX4.out hf5 HU4.out)
    have HU5 := hid (grow_ge (W := w4) (W' := w5) HU4.out HX4.out.size)
    generalize grow U4 w4 w5 = U5 at *
    have HD5 := hid hd5
    have HON1 : Hid ((VS.mk (kept d0).1 (kept d0).2 (openS d0).2).d.off = false) := HON0.out
    have HAC1 : Hid ((VS.mk (kept d0).1 (kept d0).2 (openS d0).2).d.acts.length ≤ 5000) := HAC0.out
    clear HON0 HAC0
    generalize (VS.mk (kept d0).1 (kept d0).2 (openS d0).2) = v0 at *
    clear hd5 hf5 HROP4
    go_wp2
    go_loopw [9, 10, 11, 12, 63] (fun va ga xa ha z W => ∃ (k : Nat) (v : VS) (U : Nat → Prop) (gp rp : Nat), k ≤ n ∧ z = .int .i64 (k : Int) ∧ va = .pointer (some ⟨gp, 0, none⟩) ∧ ga = .int .i64 0 ∧ xa = .pointer (some ⟨rp, 0, none⟩) ∧ ha = .int .i64 0 ∧
        Hid (Duo (VaP gp dg v) (RvP rp rg v) U W) ∧ Hid (∀ q, U q → w1.heap.size ≤ q) ∧ Hid (Play v) ∧ Hid (v.d.off = false ∧ v.d.acts.length ≤ 5000 + 1000 * k) ∧ Hid (Ext w1 W)) (fun _ _ _ _ z _ => n - (intOf z).toNat)
    case atStart => exact ⟨0, v0, U5, g4, g5, Nat.zero_le _, rfl, rfl, rfl, rfl, rfl, HD5.out, HU5.out, HPL0.out, hid ⟨HON1.out, by have := HAC1.out; omega⟩, HX5.out⟩
    obtain ⟨k, v, U, gp, rp, hk, rfl, rfl, rfl, rfl, rfl, HD, HU, HP, HON, HX⟩ := hrel
    clear HD5 HU5 HX5 HAC1 HON1 HPL0 HX2 HX3 HX4 HU4 hrm0 hrm1
    by_cases hlt : k < n
    · obtain ⟨b, o, rfl, -, hbl, hkl, hat⟩ := HL.out.at_ hlt
      have hdl := HSM.out l[k] (List.getElem_mem _)
      obtain ⟨y, hy⟩ : ∃ y, y = l[k] := ⟨_, rfl⟩
      rw [← hy] at hat hdl
      obtain ⟨ka, kn, kc, ma, mn, mc, q0, q1, q2, q3, q4, q5, q6, q7, q8, hkv⟩ := hat.v
      have hxw := HX1.out.trans' HX.out
      have qc : ∀ j, wr.cell? ⟨b, j, none⟩ = w.cell? ⟨b, j, none⟩ := fun j => hxw.cell (p := ⟨b, j, none⟩) hbl
      have q0 := (qc _).trans q0
      have q1 := (qc _).trans q1
      have q2 := (qc _).trans q2
      have q3 := (qc _).trans q3
      have q4 := (qc _).trans q4
      have q5 := (qc _).trans q5
      have q6 := (qc _).trans q6
      have q7 := (qc _).trans q7
      have q8 := (qc _).trans q8
      obtain ⟨-, -, -, -, -, -, -, i0, i1, i2, i3, i4, i5, i6, -⟩ := id hkv
      have HIN := hid (show In64 y.n ∧ In64 y.keep ∧ In64 y.tear from ⟨i4, i5, i6⟩)
      have HS70 := hid (szN_len y hdl)
      have hdl2 : y.s.d.length ≤ 1000000000000 := by omega
      have HDL := hid hdl2
      have HKV := hid (fun W (hW : Ext w W) => snap_w (hkv.below hW))
      have hr1 := ext_alloc wr (.cells #[.int .i64 y.op, .int .i64 y.s.i, .int .i64 y.s.t, .slice ka kn kc, .slice ma mn mc, .int .i64 y.size, .int .i64 y.n, .int .i64 y.keep, .int .i64 y.tear] 38)
      have hn1 := heap_alloc_new wr (.cells #[.int .i64 y.op, .int .i64 y.s.i, .int .i64 y.s.t, .slice ka kn kc, .slice ma mn mc, .int .i64 y.size, .int .i64 y.n, .int .i64 y.keep, .int .i64 y.tear] 38)
      have hki : (0 : Int) ≤ (k : Int) := by omega
      have hki2 : (k : Int) < (n : Int) := by omega
      have HKN := hid (show k + 1 ≤ n ∧ k ≤ 40 by have := HN40.out; omega)
      obtain ⟨qn, hqn⟩ : ∃ qn, qn = remS 5 y.op := ⟨_, rfl⟩
      have hqt : (IntKind.u64.wrap y.op).tmod 5 = qn := by rw [hqn]; rfl
      have hq0 : 0 ≤ qn := by rw [hqn]; exact (remS_in (by decide) y.op).1
      have hq1 : qn < 5 := by rw [hqn]; exact (remS_in (by decide) y.op).2
      have hqw : IntKind.i64.wrap qn = qn := IntWalk.i64_in _ ⟨by omega, by omega⟩
      have HR1 := hid hr1
      have HN1 := hid hn1
      have HZ1 := hid (show (wr.alloc (.cells #[.int .i64 y.op, .int .i64 y.s.i, .int .i64 y.s.t, .slice ka kn kc, .slice ma mn mc, .int .i64 y.size, .int .i64 y.n, .int .i64 y.keep, .int .i64 y.tear] 38)).heap.size = wr.heap.size + 1 from World.size_alloc ..)
      clear hat hy hkv hdl hdl2 qc hxw hr1 hn1 hqn i0 i1 i2 i3 i4 i5 i6 hbl hkl
      by_cases h3 : qn = 3
      · have hcr := HP.out.crash y.keep y.tear
        have HCR := hid hcr
        subst h3
        clear hcr
        go_wp2_with fail
        generalize wr.alloc (.cells #[.int .i64 y.op, .int .i64 y.s.i, .int .i64 y.s.t, .slice ka kn kc, .slice ma mn mc, .int .i64 y.size, .int .i64 y.n, .int .i64 y.keep, .int .i64 y.tear] 38) = r1 at *
        obtain ⟨p, hp⟩ : ∃ p, p = wr.heap.size := ⟨_, rfl⟩
        rw [← hp] at HN1 HZ1 ⊢
        have HDr := hid (HD.out.below HR1.out)
        have HOUT := hid (show OutU U r1 (fun q => q = p) from OutU.one HD.out.lt (by omega) (by have := HZ1.out; omega))
        have HXr := hid (HX.out.trans' HR1.out)
        have HPZ := hid (show w1.heap.size ≤ p by have := HX.out.size; omega)
        have HUP := hid (show ∀ q, U q → q < p from fun q hq => by have := HD.out.lt q hq; omega)
        clear hp hqt hqw q0 q1 q2 q3 q4 q5 q6 q7 q8
        refine Calls.mono (HDr.out.doesL (r := (v.d.crash y.keep y.tear)) fun D hd => Crash_at hd HP.out.ok (by have h1 := HON.out.2; have h2 := HKN.out; omega) y.keep y.tear HIN.out.2.1 HIN.out.2.2) ?_
        rintro e r2 ⟨rfl, hd2, hf2⟩
        have HN2 := hid ((HOUT.out.heap hf2 rfl).trans HN1.out)
        have HX2 := hid (ext_frm HXr.out hf2 HU.out)
        have HU2 := hid (grow_ge (W := r1) (W' := r2) HU.out HXr.out.size)
        have HD2 := hid hd2
        generalize grow U r1 r2 = U2 at *
        clear hd2 hf2
        obtain ⟨q0, q1, q2, q3, q4, q5, q6, q7, q8⟩ := cells9a HN2.out
        go_wp2_with fail
        clear q0 q1 q2 q3 q4 q5 q6 q7 q8
        refine Calls.mono (HD2.out.doesR (r := (v.d.crash y.keep y.tear)) fun D hd => RCrash_any hd HP.out.ok (by have h1 := HON.out.2; have h2 := HKN.out; omega) y.keep y.tear HIN.out.2.1 HIN.out.2.2) ?_
        rintro e r3 ⟨rfl, hd3, hf3⟩
        have HXt := hid (ext_frm HX2.out hf3 HU2.out)
        have HUt := hid (grow_ge (W := r2) (W' := r3) HU2.out HX2.out.size)
        have HDt := hid hd3
        generalize grow U2 r2 r3 = Ut at *
        have HPt := hid HCR.out.1
        have ho : (VS.mk v.s v.some (v.d.crash y.keep y.tear).2).d.off = true := by
          show (v.d.crash y.keep y.tear).2.off = true
          unfold DS.crash
          rw [if_neg (by rw [HON.out.1]; simp)]
          rfl
        generalize (VS.mk v.s v.some (v.d.crash y.keep y.tear).2) = v1 at *
        clear hd3 hf3 HD2 HU2 HDr HN2 HX2 HCR
        obtain ⟨a1, a2, a3, a4, a5, a6, a7⟩ := HPt.out.again ho
        have HAG := hid (show (openS v1.d.start).1 = 0 ∧ v1.d.start.Ok ∧ v1.d.start.Nms ∧ v1.d.start.acts.length ≤ 5000 from ⟨a1, a5, a6, a7⟩)
        have HP2 := hid a2
        have HON2 := hid (show (openS v1.d.start).2.off = false ∧ (openS v1.d.start).2.acts.length ≤ 5000 + 1000 * (k + 1) from ⟨a3, by omega⟩)
        have hcell := HDt.out.off r3 (Below.refl _ _)
        rw [ho] at hcell
        clear a1 a2 a3 a4 a5 a6 a7 ho
        go_wp2_with fail
        clear hcell
        refine Calls.mono (HDt.out.doesL (r := (0, v1.d.start)) fun D hd => Start_at hd) ?_
        rintro e s1 ⟨rfl, hd1, hf1⟩
        have HXs := hid (ext_frm HXt.out hf1 HUt.out)
        have HUs := hid (grow_ge (W := r3) (W' := s1) HUt.out HXt.out.size)
        have HDs := hid hd1
        generalize grow Ut r3 s1 = Us at *
        clear hd1 hf1
        go_wp2_with fail
        refine Calls.mono (HDs.out.doesR (r := (0, v1.d.start)) fun D hd => RStart_any hd) ?_
        rintro e s2 ⟨rfl, hd2, hf2⟩
        have HX2s := hid (ext_frm HXs.out hf2 HUs.out)
        have HU2s := hid (grow_ge (W := s1) (W' := s2) HUs.out HXs.out.size)
        have hdk : Duo (DkP dg v1.d.start) (RkP rg v1.d.start) _ s2 := hd2.diskL.diskR
        have HD2s := hid hdk
        generalize grow Us s1 s2 = U2s at *
        clear hd2 hf2 hdk HDs HUs
        go_wp2_with fail
        refine Calls.mono (HD2s.out.openL HAG.out.2.1 HAG.out.2.2.1 (by have := HAG.out.2.2.2; omega) (HT.out.ext (HX1.out.trans' HX2s.out)) (fun h => by have h1 := HU2s.out _ h; have h2 := HPL.out; have h3 := HX1.out.size; omega) HAG.out.1) ?_
        rintro e s3 ⟨g3, rfl, hd3, hf3⟩
        have HX3s := hid (ext_frm HX2s.out hf3 HU2s.out)
        have HU3s := hid (grow_ge (W := s2) (W' := s3) HU2s.out HX2s.out.size)
        have HD3s := hid hd3
        generalize grow U2s s2 s3 = U3s at *
        clear hd3 hf3 HD2s HU2s
        go_wp2_with fail
        refine Calls.mono (HD3s.out.openR HAG.out.2.1 HAG.out.2.2.1 (by have := HAG.out.2.2.2; omega) HAG.out.1) ?_
        rintro e s4 ⟨g4', rfl, hd4, hf4⟩
        have HX4s := hid (ext_frm HX3s.out hf4 HU3s.out)
        have HU4s := hid (grow_ge (W := s3) (W' := s4) HU3s.out HX3s.out.size)
        have HD4s := hid hd4
        generalize grow U3s s3 s4 = U4s at *
        have HON2 : Hid ((VS.mk (kept v1.d.start).1 (kept v1.d.start).2 (openS v1.d.start).2).d.off = false ∧ (VS.mk (kept v1.d.start).1 (kept v1.d.start).2 (openS v1.d.start).2).d.acts.length ≤ 5000 + 1000 * (k + 1)) := HON2.out
        generalize (VS.mk (kept v1.d.start).1 (kept v1.d.start).2 (openS v1.d.start).2) = v2 at *
        clear hd4 hf4 HD3s HU3s HAG HDt HUt HPt HXt
        have HDt := HD4s
        have HUt := HU4s
        have HPt := HP2
        have HONt := HON2
        have HXt := HX4s
        clear HD4s HU4s HP2 HON2 HX4s
        go_wp2_with fail
        have HALK := hid (HDt.out.alike HPt.out.ok HPt.out.may.nms HONt.out.1 (by have h1 := HONt.out.2; have h2 := HKN.out; omega))
        have HTEL := hid (fun W' (hW : Ext s4 W') => (HDt.out.below hW).tells HPt.out.none HPt.out.len)
        refine Calls.mono HALK.out ?_
        rintro e t5 ⟨rfl, hx5⟩
        have HX5 := hid hx5
        clear hx5
        go_wp2_with fail
        refine Calls.mono (HTEL.out t5 HX5.out) ?_
        rintro e t6 ⟨rfl, hx6⟩
        have HX6 := hid (HX5.out.trans' hx6)
        clear hx6
        go_wp2
        go_roundw
        case rel => exact ⟨k + 1, v2, U4s, g3, g4', HKN.out.1, by go_num, rfl, rfl, rfl, rfl, HDt.out.below HX6.out, HUt.out, HPt.out, HONt.out, HXt.out.trans' HX6.out⟩
        case measure => simp [intOf]; omega
      by_cases h4 : qn = 4
      · have HAR := hid (HP.out.arm y.n y.keep y.tear HIN.out.1 HIN.out.2.1 HIN.out.2.2)
        subst h4
        clear h3
        go_wp2_with fail
        generalize wr.alloc (.cells #[.int .i64 y.op, .int .i64 y.s.i, .int .i64 y.s.t, .slice ka kn kc, .slice ma mn mc, .int .i64 y.size, .int .i64 y.n, .int .i64 y.keep, .int .i64 y.tear] 38) = r1 at *
        obtain ⟨p, hp⟩ : ∃ p, p = wr.heap.size := ⟨_, rfl⟩
        rw [← hp] at HN1 HZ1 ⊢
        have HDr := hid (HD.out.below HR1.out)
        have HOUT := hid (show OutU U r1 (fun q => q = p) from OutU.one HD.out.lt (by omega) (by have := HZ1.out; omega))
        have HXr := hid (HX.out.trans' HR1.out)
        have HPZ := hid (show w1.heap.size ≤ p by have := HX.out.size; omega)
        have HUP := hid (show ∀ q, U q → q < p from fun q hq => by have := HD.out.lt q hq; omega)
        clear hp hqt hqw q0 q1 q2 q3 q4 q5 q6 q7 q8
        have y0 : r1.drew.heap[p]? = some (.cells #[.int .i64 y.op, .int .i64 y.s.i, .int .i64 y.s.t, .slice ka kn kc, .slice ma mn mc, .int .i64 y.size, .int .i64 y.n, .int .i64 y.keep, .int .i64 y.tear] 38 (0, 0)) := HN1.out
        refine wp_region_held_drew (S := fun W => W.heap[p]? = some (.cells #[.int .i64 y.op, .int .i64 y.s.i, .int .i64 y.s.t, .slice ka kn kc, .slice ma mn mc, .int .i64 y.size, .int .i64 y.n, .int .i64 y.keep, .int .i64 y.tear] 38 (0, 0))) (by kernel_rfl) y0 (fun hH => ?_)
        obtain ⟨rd, hrd⟩ : ∃ rd, rd = r1.drew := ⟨_, rfl⟩
        have hxd : Ext r1 rd := by rw [hrd]; exact ext_drew r1
        rw [← hrd] at y0 ⊢
        have HDd := hid (HDr.out.below hxd)
        have HOd := hid (HOUT.out.below hxd)
        have HXd := hid (HXr.out.trans' hxd)
        have hdA := HDd.out.doesL (r := (v.d.arm y.n y.keep y.tear)) fun D hd => Arm_at hd y.n y.keep y.tear HIN.out.1
        have hdB := fun (P : (Nat → Prop) → World → Prop) (U : Nat → Prop) (W : World) (h : Duo P (RvP rp rg v) U W) => h.doesR (r := (v.d.arm y.n y.keep y.tear)) fun D hd => RArm_any hd y.n y.keep y.tear HIN.out.1 HIN.out.2.1 HIN.out.2.2
        have ho1 : (VS.mk v.s v.some (v.d.arm y.n y.keep y.tear).2).d.off = false := by
          show (v.d.arm y.n y.keep y.tear).2.off = false
          unfold DS.arm
          rw [if_neg (by rw [HON.out.1]; simp)]
          exact HON.out.1
        have hac1 : (VS.mk v.s v.some (v.d.arm y.n y.keep y.tear).2).d.acts.length ≤ 5000 + 1000 * (k + 1) := by have h1 := HAR.out.2; have h2 := HON.out.2; show (v.d.arm y.n y.keep y.tear).2.acts.length ≤ _; omega
        have HPt := hid HAR.out.1
        generalize (VS.mk v.s v.some (v.d.arm y.n y.keep y.tear).2) = v1 at *
        generalize (v.d.arm y.n y.keep y.tear).1 = er at *
        have HONt := hid (And.intro ho1 hac1)
        have HDA := hid hdA
        have HDB := hid hdB
        have hne : ((er : Int) != er) = false := by simp
        clear hdA hdB ho1 hac1 HAR hH hrd hxd
        refine hr_ 0 (.pointer (some ⟨dg, 0, none⟩)) rfl y0 (fun W hW => ?_) ?_
        · (clear hW; go_simp)
        try simp only [Act.put, sA_, s0_, sS_]
        refine hr_ 1 (.pointer (some ⟨p, 6, none⟩)) rfl y0 (fun W hW => ?_) ?_
        · (clear hW; go_simp)
        try simp only [Act.put, sA_, s0_, sS_]
        refine hr_ 2 (.int .i64 y.n) rfl y0 (fun W hW => ?_) ?_
        · (obtain ⟨q0, q1, q2, q3, q4, q5, q6, q7, q8⟩ := cells9a hW; clear hW; go_simp)
        try simp only [Act.put, sA_, s0_, sS_]
        refine hr_ 3 (.pointer (some ⟨p, 7, none⟩)) rfl y0 (fun W hW => ?_) ?_
        · (clear hW; go_simp)
        try simp only [Act.put, sA_, s0_, sS_]
        refine hr_ 4 (.int .i64 y.keep) rfl y0 (fun W hW => ?_) ?_
        · (obtain ⟨q0, q1, q2, q3, q4, q5, q6, q7, q8⟩ := cells9a hW; clear hW; go_simp)
        try simp only [Act.put, sA_, s0_, sS_]
        refine hr_ 5 (.pointer (some ⟨p, 8, none⟩)) rfl y0 (fun W hW => ?_) ?_
        · (clear hW; go_simp)
        try simp only [Act.put, sA_, s0_, sS_]
        refine hr_ 6 (.int .i64 y.tear) rfl y0 (fun W hW => ?_) ?_
        · (obtain ⟨q0, q1, q2, q3, q4, q5, q6, q7, q8⟩ := cells9a hW; clear hW; go_simp)
        try simp only [Act.put, sA_, s0_, sS_]
        refine hr_ 8 (.pointer (some ⟨rg, 0, none⟩)) rfl y0 (fun W hW => ?_) ?_
        · (clear hW; go_simp)
        try simp only [Act.put, sA_, s0_, sS_]
        refine hr_ 9 (.pointer (some ⟨p, 6, none⟩)) rfl y0 (fun W hW => ?_) ?_
        · (clear hW; go_simp)
        try simp only [Act.put, sA_, s0_, sS_]
        refine hr_ 10 (.int .i64 y.n) rfl y0 (fun W hW => ?_) ?_
        · (obtain ⟨q0, q1, q2, q3, q4, q5, q6, q7, q8⟩ := cells9a hW; clear hW; go_simp)
        try simp only [Act.put, sA_, s0_, sS_]
        refine hr_ 11 (.pointer (some ⟨p, 7, none⟩)) rfl y0 (fun W hW => ?_) ?_
        · (clear hW; go_simp)
        try simp only [Act.put, sA_, s0_, sS_]
        refine hr_ 12 (.int .i64 y.keep) rfl y0 (fun W hW => ?_) ?_
        · (obtain ⟨q0, q1, q2, q3, q4, q5, q6, q7, q8⟩ := cells9a hW; clear hW; go_simp)
        try simp only [Act.put, sA_, s0_, sS_]
        refine hr_ 13 (.pointer (some ⟨p, 8, none⟩)) rfl y0 (fun W hW => ?_) ?_
        · (clear hW; go_simp)
        try simp only [Act.put, sA_, s0_, sS_]
        refine hr_ 14 (.int .i64 y.tear) rfl y0 (fun W hW => ?_) ?_
        · (obtain ⟨q0, q1, q2, q3, q4, q5, q6, q7, q8⟩ := cells9a hW; clear hW; go_simp)
        try simp only [Act.put, sA_, s0_, sS_]
        refine hc_ 7 rfl (fun K hK => ?_)
        go_simp
        go_at_call 21
        refine Calls.mono HDA.out ?_
        rintro e wa ⟨rfl, hda, hfa⟩
        have y1 := (HOd.out.heap hfa rfl).trans y0
        have HOa := hid (HOd.out.step hfa)
        have HXa := hid (ext_frm HXd.out hfa HU.out)
        have HUa := hid (grow_ge (W := rd) (W' := wa) HU.out HXd.out.size)
        have HDBa := hid (HDB.out _ _ _ hda)
        generalize grow U rd wa = Ua at *
        clear hda hfa
        dsimp only
        refine hK.out _ _ y1 (fun hH => ?_)
        clear hK K y0 hH
        have y0 := y1
        clear y1
        try simp only [Act.put, sA_, s0_, sS_]
        refine hc_ 15 rfl (fun K hK => ?_)
        go_simp
        go_at_call 33
        refine Calls.mono HDBa.out ?_
        rintro e wb ⟨rfl, hdb, hfb⟩
        have y1 := (HOa.out.heap hfb rfl).trans y0
        have HXt := hid (ext_frm HXa.out hfb HUa.out)
        have HUt := hid (grow_ge (W := wa) (W' := wb) HUa.out HXa.out.size)
        have HDt := hid hdb
        generalize grow Ua wa wb = Ut at *
        clear hdb hfb
        dsimp only
        refine hK.out _ _ y1 (fun hH => ?_)
        clear hK K y0 hH
        have y0 := y1
        clear y1
        try simp only [Act.put, sA_, s0_, sS_]
        refine hr_ 16 (.bool false) rfl y0 (fun W hW => ?_) ?_
        · (clear hW; go_simp)
        try simp only [Act.put, sA_, s0_, sS_]
        refine wpAnyH_done (by kernel_rfl) ?_ _
        clear y0
        have hcell := HDt.out.off wb (Below.refl _ _)
        rw [HONt.out.1] at hcell
        go_wp2_with fail
        clear hcell
        have HALK := hid (HDt.out.alike HPt.out.ok HPt.out.may.nms HONt.out.1 (by have h1 := HONt.out.2; have h2 := HKN.out; omega))
        have HTEL := hid (fun W' (hW : Ext wb W') => (HDt.out.below hW).tells HPt.out.none HPt.out.len)
        refine Calls.mono HALK.out ?_
        rintro e t5 ⟨rfl, hx5⟩
        have HX5 := hid hx5
        clear hx5
        go_wp2_with fail
        refine Calls.mono (HTEL.out t5 HX5.out) ?_
        rintro e t6 ⟨rfl, hx6⟩
        have HX6 := hid (HX5.out.trans' hx6)
        clear hx6
        go_wp2
        go_roundw
        case rel => exact ⟨k + 1, v1, Ut, gp, rp, HKN.out.1, by go_num, rfl, rfl, rfl, rfl, HDt.out.below HX6.out, HUt.out, HPt.out, HONt.out, HXt.out.trans' HX6.out⟩
        case measure => simp [intOf]; omega
      have h3b : (qn == 3) = false := by simpa using h3
      have h4b : (qn == 4) = false := by simpa using h4
      clear h3 h4 hq0 hq1
      go_wp2_with fail
      generalize wr.alloc (.cells #[.int .i64 y.op, .int .i64 y.s.i, .int .i64 y.s.t, .slice ka kn kc, .slice ma mn mc, .int .i64 y.size, .int .i64 y.n, .int .i64 y.keep, .int .i64 y.tear] 38) = r1 at *
      obtain ⟨p, hp⟩ : ∃ p, p = wr.heap.size := ⟨_, rfl⟩
      rw [← hp] at HN1 HZ1 ⊢
      have HDr := hid (HD.out.below HR1.out)
      have HOUT := hid (show OutU U r1 (fun q => q = p) from OutU.one HD.out.lt (by omega) (by have := HZ1.out; omega))
      have HXr := hid (HX.out.trans' HR1.out)
      have HPZ := hid (show w1.heap.size ≤ p by have := HX.out.size; omega)
      have HUP := hid (show ∀ q, U q → q < p from fun q hq => by have := HD.out.lt q hq; omega)
      clear hp hqt hqw q0 q1 q2 q3 q4 q5 q6 q7 q8
      refine Calls.mono (HKV.out r1 (HX1.out.trans' HXr.out)) ?_
      rintro e r2 ⟨x0, x1, x2, x3, rfl, hsv, hx2, hdw⟩
      have hsv := hsv HDL.out
      obtain ⟨s, hs⟩ : ∃ s, s = snapS y := ⟨_, rfl⟩
      rw [← hs] at hsv
      obtain ⟨sa, sn, sc, da, dn, dc, rfl, rfl, rfl, rfl⟩ := snv_form hsv
      obtain ⟨v0', v1', v2', da', dn', dc', heq, hrow⟩ := hdw
      have heq2 : Value.slice da' dn' dc' = Value.slice da dn dc := by
        simp only [Value.agg.injEq, Array.mk.injEq, List.cons.injEq, and_true] at heq
        exact heq.2.2.2.symm
      cases heq2
      clear heq
      have HSE := hid hs
      have HL70 := hid (show s.d.length ≤ 70000 by rw [hs]; exact HS70.out)
      have hdn : dn ≤ 9223372036854775807 := by
        obtain ⟨_, _, _, _, _, _, e, -, -, -, hby⟩ := hsv
        cases e
        have := hby.1
        have := HL70.out
        omega
      obtain ⟨D8, hD8⟩ : ∃ D8 : Nat → Prop, D8 = fun q => r1.heap.size ≤ q ∧ q < r2.heap.size := ⟨_, rfl⟩
      rw [← hD8] at hsv hrow
      have HZ2 := hid hx2.size
      have hx3 := ext_alloc r2 (.cells #[.int .i64 s.i, .int .i64 s.t, .slice sa sn sc, .slice da dn dc] 25)
      have hn3 := heap_alloc_new r2 (.cells #[.int .i64 s.i, .int .i64 s.t, .slice sa sn sc, .slice da dn dc] 25)
      have hz3 : (r2.alloc (.cells #[.int .i64 s.i, .int .i64 s.t, .slice sa sn sc, .slice da dn dc] 25)).heap.size = r2.heap.size + 1 := World.size_alloc ..
      have HSV2 := hid hsv
      have HRO2 := hid hrow
      have HX12 := hid hx2
      have HX23 := hid hx3
      have HN3 := hid hn3
      have HZ3 := hid hz3
      clear hsv hrow hs hx2 hx3 hn3 hz3
      go_wp2_with fail
      generalize r2.alloc (.cells #[.int .i64 s.i, .int .i64 s.t, .slice sa sn sc, .slice da dn dc] 25) = r3 at *
      obtain ⟨ps, hps⟩ : ∃ ps, ps = r2.heap.size := ⟨_, rfl⟩
      rw [← hps] at HN3 HZ3 ⊢
      obtain ⟨M, hM⟩ : ∃ M : Nat → Prop, M = fun q => p ≤ q ∧ q < r3.heap.size := ⟨_, rfl⟩
      have HM := hid (show OutU U r3 M from by rw [hM]; exact fun q hq => ⟨fun h => by have := HUP.out q h; have := hq.1; omega, hq.2⟩)
      have HDM := hid (show ∀ q, D8 q → M q ∧ q ≠ p ∧ q ≠ ps from fun q hq => by
        rw [hD8] at hq
        rw [hM]
        have h1 := HZ1.out; have h2 := HZ2.out; have h3 := HZ3.out; have h4 := hq.1; have h5 := hq.2
        refine ⟨⟨?_, ?_⟩, ?_, ?_⟩ <;> omega)
      have HPM := hid (show M p ∧ M ps by
        rw [hM]
        have h1 := HZ1.out; have h2 := HZ2.out; have h3 := HZ3.out
        refine ⟨⟨?_, ?_⟩, ?_, ?_⟩ <;> omega)
      have HPG := hid (show ∀ q, M q → p ≤ q from fun q hq => by rw [hM] at hq; exact hq.1)
      clear hM
      have y0 : r3.drew.heap[p]? = some (.cells #[.int .i64 y.op, .int .i64 y.s.i, .int .i64 y.s.t, .slice ka kn kc, .slice ma mn mc, .int .i64 y.size, .int .i64 y.n, .int .i64 y.keep, .int .i64 y.tear] 38 (0, 0)) ∧ r3.drew.heap[ps]? = some (.cells #[.int .i64 s.i, .int .i64 s.t, .slice sa sn sc, .slice da dn dc] 25 (0, 0)) :=
        ⟨((HX23.out.block p (by have := HZ1.out; have := HZ2.out; omega)).trans (HX12.out.block p (by have := HZ1.out; omega))).trans HN1.out, HN3.out⟩
      refine wp_region_held_drew (S := fun W => W.heap[p]? = some (.cells #[.int .i64 y.op, .int .i64 y.s.i, .int .i64 y.s.t, .slice ka kn kc, .slice ma mn mc, .int .i64 y.size, .int .i64 y.n, .int .i64 y.keep, .int .i64 y.tear] 38 (0, 0)) ∧ W.heap[ps]? = some (.cells #[.int .i64 s.i, .int .i64 s.t, .slice sa sn sc, .slice da dn dc] 25 (0, 0))) (by kernel_rfl) y0 (fun hH => ?_)
      obtain ⟨rd, hrd⟩ : ∃ rd, rd = r3.drew := ⟨_, rfl⟩
      have hxd : Ext r3 rd := by rw [hrd]; exact ext_drew r3
      rw [← hrd] at y0 ⊢
      have HX1d := hid (HX12.out.trans' (HX23.out.trans' hxd))
      have HDd := hid (HDr.out.below HX1d.out)
      have HMd := hid (HM.out.below hxd)
      have HXd := hid (HXr.out.trans' HX1d.out)
      have HSVd := hid (HSV2.out.below (HX23.out.trans' hxd))
      have HROd := hid (HRO2.out.keep (w' := rd) (E := D8) (fun q hq hl => ⟨hq, (HX23.out.trans' hxd).block q hl⟩) (HX23.out.trans' hxd).size)
      have hF8 : ∀ q, D8 q → ¬ U q := fun q hq => (HM.out q (HDM.out q hq).1).1
      have hpsv := HP.out.save s
      have hmo := saveS_more v s
      have hsl := HDd.out.saveL HP.out.vok (by have h1 := HON.out.2; have h2 := HKN.out; omega) HSVd.out hF8 (HT.out.ext (HX1.out.trans' HXd.out)) (fun h => by have h1 := HU.out _ h; have h2 := HPL.out; have h3 := HX1.out.size; omega)
      have hsr := fun (P : (Nat → Prop) → World → Prop) (U : Nat → Prop) (W : World) (val : Value) (F : Nat → Prop) (h : Duo P (RvP rp rg v) U W) (hs : SnV F W val s) (hF : ∀ q, F q → ¬ U q) => h.saveR HP.out.vok (by have h1 := HON.out.2; have h2 := HKN.out; omega) hs hF
      obtain ⟨⟨er, v1⟩, hr⟩ : ∃ r, r = saveS v s := ⟨_, rfl⟩
      rw [← hr] at hpsv hmo hsl hsr
      dsimp only at hpsv hmo
      have HPt := hid hpsv
      have HMO := hid (show v1.d.acts.length ≤ 5000 + 1000 * (k + 1) by have := HON.out.2; omega)
      have HSL := hid hsl
      have HSR := hid hsr
      have hne : ((er : Int) != er) = false := by simp
      clear hH hrd hxd hps hD8 hF8 hpsv hmo hsl hsr hr
      refine hr_ 0 (.pointer (some ⟨gp, 0, none⟩)) rfl y0 (fun W hW => ?_) ?_
      · (clear hW; go_simp)
      try simp only [Act.put, sA_, s0_, sS_]
      refine hr_ 1 (.agg #[.int .i64 s.i, .int .i64 s.t, .slice sa sn sc, .slice da dn dc]) rfl y0 (fun W hW => ?_) ?_
      · (obtain ⟨c0, c1, c2, c3⟩ := cells4s hW.2; clear hW; go_simp)
      try simp only [Act.put, sA_, s0_, sS_]
      refine hr_ 3 (.pointer (some ⟨rp, 0, none⟩)) rfl y0 (fun W hW => ?_) ?_
      · (clear hW; go_simp)
      try simp only [Act.put, sA_, s0_, sS_]
      refine hr_ 4 (.agg #[.int .i64 y.op, .int .i64 y.s.i, .int .i64 y.s.t, .slice ka kn kc, .slice ma mn mc, .int .i64 y.size, .int .i64 y.n, .int .i64 y.keep, .int .i64 y.tear]) rfl y0 (fun W hW => ?_) ?_
      · (obtain ⟨q0, q1, q2, q3, q4, q5, q6, q7, q8⟩ := cells9a hW.1; clear hW; go_simp)
      try simp only [Act.put, sA_, s0_, sS_]
      refine hc_ 2 rfl (fun K hK => ?_)
      go_simp
      go_at_call 17
      refine Calls.mono HSL.out ?_
      rintro e wa ⟨rfl, hda, hfa⟩
      have y1 := And.intro ((HMd.out.heap hfa HPM.out.1).trans y0.1) ((HMd.out.heap hfa HPM.out.2).trans y0.2)
      have HMa := hid (HMd.out.step hfa)
      have HXa := hid (ext_frm HXd.out hfa HU.out)
      have HUa := hid (grow_ge (W := rd) (W' := wa) HU.out HXd.out.size)
      have HDa := hid hda
      have HSVa := hid (HSVd.out.keep (w' := wa) (G := D8) fun q hq hl => ⟨hq, HMd.out.heap hfa (HDM.out q hq).1⟩)
      have HROa := hid (HROd.out.keep (w' := wa) (E := D8) (fun q hq hl => ⟨hq, HMd.out.heap hfa (HDM.out q hq).1⟩) hfa.size)
      generalize grow U rd wa = Ua at *
      clear hda hfa HSVd HROd HDd HMd HXd
      dsimp only
      refine hK.out _ _ y1 (fun hH => ?_)
      clear hK K y0 hH
      have y0 := y1
      clear y1
      try simp only [Act.put, sA_, s0_, sS_]
      refine hc_ 5 rfl (fun K hK => ?_)
      go_simp
      go_at_call 16
      refine Calls.mono (HKV.out wa (HX1.out.trans' HXa.out)) ?_
      rintro e wb ⟨z0, z1, z2, z3, rfl, hsv2, hx2, -⟩
      have hsv2 := hsv2 HDL.out
      rw [← HSE.out] at hsv2
      have y1 := And.intro ((hx2.block p (HMa.out p HPM.out.1).2).trans y0.1) ((hx2.block ps (HMa.out ps HPM.out.2).2).trans y0.2)
      have HMb := hid (HMa.out.below hx2)
      have HXb := hid (HXa.out.trans' hx2)
      have HDb := hid (HDa.out.below hx2)
      have HSRb := hid (HSR.out _ _ _ _ _ HDb.out hsv2 (fun q hq h => by have h1 := HDa.out.lt q h; have h2 := hq.1; omega))
      have HSVb := hid (HSVa.out.below hx2)
      have HROb := hid (HROa.out.keep (w' := wb) (E := D8) (fun q hq hl => ⟨hq, hx2.block q hl⟩) hx2.size)
      clear hsv2 hx2 HSVa HROa HDa HMa
      dsimp only
      refine hK.out _ _ y1 (fun hH => ?_)
      clear hK K y0 hH
      have y0 := y1
      clear y1
      try simp only [Act.put, sA_, s0_, sS_]
      refine hc_ 6 rfl (fun K hK => ?_)
      go_simp
      go_at_call 34
      refine Calls.mono HSRb.out ?_
      rintro e wc ⟨rfl, hdc, hfc⟩
      have y1 := And.intro ((HMb.out.heap hfc HPM.out.1).trans y0.1) ((HMb.out.heap hfc HPM.out.2).trans y0.2)
      have HMc := hid (HMb.out.step hfc)
      have HXc := hid (ext_frm HXb.out hfc HUa.out)
      have HUc := hid (grow_ge (W := wb) (W' := wc) HUa.out HXb.out.size)
      have HDc := hid hdc
      have HSVc := hid (HSVb.out.keep (w' := wc) (G := D8) fun q hq hl => ⟨hq, HMb.out.heap hfc (HDM.out q hq).1⟩)
      have HROc := hid (HROb.out.keep (w' := wc) (E := D8) (fun q hq hl => ⟨hq, HMb.out.heap hfc (HDM.out q hq).1⟩) hfc.size)
      generalize grow Ua wb wc = Uc at *
      clear hdc hfc HSVb HROb HDb HMb HSRb
      dsimp only
      refine hK.out _ _ y1 (fun hH => ?_)
      clear hK K y0 hH
      have y0 := y1
      clear y1
      try simp only [Act.put, sA_, s0_, sS_]
      refine hr_ 7 (.bool false) rfl y0 (fun W hW => ?_) ?_
      · (clear hW; go_simp)
      try simp only [Act.put, sA_, s0_, sS_]
      refine hr_ 8 (.bool false) rfl y0 (fun W hW => ?_) ?_
      · (clear hW; go_simp)
      try simp only [Act.put, sA_, s0_, sS_]
      refine hr_ 9 (.agg #[.int .i64 s.i, .int .i64 s.t, .slice sa sn sc, .slice da dn dc]) rfl y0 (fun W hW => ?_) ?_
      · (obtain ⟨c0, c1, c2, c3⟩ := cells4s hW.2; clear hW; go_simp)
      try simp only [Act.put, sA_, s0_, sS_]
      refine hr_ 10 (.agg #[.int .i64 y.op, .int .i64 y.s.i, .int .i64 y.s.t, .slice ka kn kc, .slice ma mn mc, .int .i64 y.size, .int .i64 y.n, .int .i64 y.keep, .int .i64 y.tear]) rfl y0 (fun W hW => ?_) ?_
      · (obtain ⟨q0, q1, q2, q3, q4, q5, q6, q7, q8⟩ := cells9a hW.1; clear hW; go_simp)
      try simp only [Act.put, sA_, s0_, sS_]
      refine hc_ 11 rfl (fun K hK => ?_)
      go_simp
      go_at_call 16
      refine Calls.mono (HKV.out wc (HX1.out.trans' HXc.out)) ?_
      rintro e wd ⟨z0, z1, z2, z3, rfl, hsv3, hx3, -⟩
      have hsv3 := hsv3 HDL.out
      rw [← HSE.out] at hsv3
      have y1 := And.intro ((hx3.block p (HMc.out p HPM.out.1).2).trans y0.1) ((hx3.block ps (HMc.out ps HPM.out.2).2).trans y0.2)
      have HXd := hid hx3
      have HSAME := hid (Same_any (HSVc.out.below hx3) hsv3)
      clear hsv3 hx3
      dsimp only
      refine hK.out _ _ y1 (fun hH => ?_)
      clear hK K y0 hH
      have y0 := y1
      clear y1
      try simp only [Act.put, sA_, s0_, sS_]
      refine hc_ 12 rfl (fun K hK => ?_)
      go_simp
      go_at_call 19
      refine Calls.mono HSAME.out ?_
      rintro e we ⟨he, hx4⟩
      rw [show sameS s s = true from sameS_iff.2 rfl] at he
      subst he
      have HXe := hid (HXd.out.trans' hx4)
      have y1 := And.intro ((hx4.block p (Nat.lt_of_lt_of_le (HMc.out p HPM.out.1).2 HXd.out.size)).trans y0.1) ((hx4.block ps (Nat.lt_of_lt_of_le (HMc.out ps HPM.out.2).2 HXd.out.size)).trans y0.2)
      clear hx4
      dsimp only
      refine hK.out _ _ y1 (fun hH => ?_)
      clear hK K y0 hH
      have y0 := y1
      clear y1
      try simp only [Act.put, sA_, s0_, sS_]
      refine hr_ 13 (.bool false) rfl y0 (fun W hW => ?_) ?_
      · (clear hW; go_simp)
      try simp only [Act.put, sA_, s0_, sS_]
      refine hr_ 14 (.bool false) rfl y0 (fun W hW => ?_) ?_
      · (clear hW; go_simp)
      try simp only [Act.put, sA_, s0_, sS_]
      refine wpAnyH_done (by kernel_rfl) ?_ _
      have HNS := hid y0.2
      have HDe := hid (HDc.out.below HXe.out)
      have HXE := hid (HXc.out.trans' HXe.out)
      have HROe := hid (HROc.out.keep (w' := we) (E := D8) (fun q hq hl => ⟨hq, HXe.out.block q hl⟩) HXe.out.size)
      have HDU := hid (show ∀ q, D8 q → ¬ Uc q ∧ w1.heap.size ≤ q from fun q hq => ⟨(HMc.out q (HDM.out q hq).1).1, by have := HPZ.out; have := HPG.out q (HDM.out q hq).1; omega⟩)
      obtain ⟨⟨c0, c1, c2, c3⟩, -, -⟩ := cells4 y0.2
      clear y0 HSAME HXd HXe HSVc HROc HMc HDc HXb HXa HUa HSR HSL HKV
      generalize wr = wo at *
      go_wp2
      go_loopw [16, 92] (fun _ z W => ∃ k3 : Nat, k3 ≤ dn ∧ z = .int .i64 (k3 : Int) ∧ Hid (Row8 D8 W da dn) ∧ Hid (Frm D8 we W)) (fun _ z _ => dn - (intOf z).toNat)
      case atStart => exact ⟨0, by omega, rfl, HROe.out, Frm.refl _ _⟩
      obtain ⟨k3, hk3, rfl, HRK, HFK⟩ := hrel
      clear c0 c1 c2 c3
      by_cases hlt3 : k3 < dn
      · obtain ⟨b3, v3, rfl, hD3, hbl3, c3, f3⟩ := HRK.out k3 hlt3
        obtain ⟨⟨-, -, -, c4⟩, -, -⟩ := cells4 ((HFK.out.block ps (Array.getElem?_eq_some_iff.1 HNS.out).1 (fun h => (HDM.out ps h).2.2 rfl)).trans HNS.out)
        have hk0 : (0 : Int) ≤ (k3 : Int) := by omega
        have hk1 : (k3 : Int) < (dn : Int) := by omega
        have HD3 := hid hD3
        clear hD3
        go_wp2
        go_roundw
        case rel => exact ⟨k3 + 1, by omega, by go_num, hid (HRK.out.set hlt3 _), hid (HFK.out.trans (frm_set (D := D8) HD3.out _) fun q hq => .inl hq)⟩
        case measure => simp [intOf]; omega
      have hki3 : ¬ (k3 : Int) < (dn : Int) := by omega
      have HDt := hid (HDe.out.frm HFK.out fun q hq h => (HDU.out q h).1 hq)
      have HXt := hid (ext_frm HXE.out HFK.out fun q hq => (HDU.out q hq).2)
      have HUt := hid HUc.out
      clear hlt3
      have hcell := HDt.out.off wr (Below.refl _ _)
      cases ho : v1.d.off with
      | false =>
        rw [ho] at hcell
        have HONt := hid (And.intro ho HMO.out)
        clear ho
        go_wp2_with fail
        clear hcell
        have HALK := hid (HDt.out.alike HPt.out.ok HPt.out.may.nms HONt.out.1 (by have h1 := HONt.out.2; have h2 := HKN.out; omega))
        have HTEL := hid (fun W' (hW : Ext wr W') => (HDt.out.below hW).tells HPt.out.none HPt.out.len)
        refine Calls.mono HALK.out ?_
        rintro e t5 ⟨rfl, hx5⟩
        have HX5 := hid hx5
        clear hx5
        go_wp2_with fail
        refine Calls.mono (HTEL.out t5 HX5.out) ?_
        rintro e t6 ⟨rfl, hx6⟩
        have HX6 := hid (HX5.out.trans' hx6)
        clear hx6
        go_wp2
        go_roundw
        case rel => exact ⟨k + 1, v1, Uc, gp, rp, HKN.out.1, by go_num, rfl, rfl, rfl, rfl, HDt.out.below HX6.out, HUt.out, HPt.out, HONt.out, HXt.out.trans' HX6.out⟩
        case measure => simp [intOf]; omega
      | true =>
        clear hcell HMO
        obtain ⟨a1, a2, a3, a4, a5, a6, a7⟩ := HPt.out.again ho
        have HAG := hid (show (openS v1.d.start).1 = 0 ∧ v1.d.start.Ok ∧ v1.d.start.Nms ∧ v1.d.start.acts.length ≤ 5000 from ⟨a1, a5, a6, a7⟩)
        have HP2 := hid a2
        have HON2 := hid (show (openS v1.d.start).2.off = false ∧ (openS v1.d.start).2.acts.length ≤ 5000 + 1000 * (k + 1) from ⟨a3, by omega⟩)
        have hcell := HDt.out.off wr (Below.refl _ _)
        rw [ho] at hcell
        clear a1 a2 a3 a4 a5 a6 a7 ho
        go_wp2_with fail
        clear hcell
        refine Calls.mono (HDt.out.doesL (r := (0, v1.d.start)) fun D hd => Start_at hd) ?_
        rintro e s1 ⟨rfl, hd1, hf1⟩
        have HXs := hid (ext_frm HXt.out hf1 HUt.out)
        have HUs := hid (grow_ge (W := wr) (W' := s1) HUt.out HXt.out.size)
        have HDs := hid hd1
        generalize grow Uc wr s1 = Us at *
        clear hd1 hf1
        go_wp2_with fail
        refine Calls.mono (HDs.out.doesR (r := (0, v1.d.start)) fun D hd => RStart_any hd) ?_
        rintro e s2 ⟨rfl, hd2, hf2⟩
        have HX2s := hid (ext_frm HXs.out hf2 HUs.out)
        have HU2s := hid (grow_ge (W := s1) (W' := s2) HUs.out HXs.out.size)
        have hdk : Duo (DkP dg v1.d.start) (RkP rg v1.d.start) _ s2 := hd2.diskL.diskR
        have HD2s := hid hdk
        generalize grow Us s1 s2 = U2s at *
        clear hd2 hf2 hdk HDs HUs
        go_wp2_with fail
        refine Calls.mono (HD2s.out.openL HAG.out.2.1 HAG.out.2.2.1 (by have := HAG.out.2.2.2; omega) (HT.out.ext (HX1.out.trans' HX2s.out)) (fun h => by have h1 := HU2s.out _ h; have h2 := HPL.out; have h3 := HX1.out.size; omega) HAG.out.1) ?_
        rintro e s3 ⟨g3, rfl, hd3, hf3⟩
        have HX3s := hid (ext_frm HX2s.out hf3 HU2s.out)
        have HU3s := hid (grow_ge (W := s2) (W' := s3) HU2s.out HX2s.out.size)
        have HD3s := hid hd3
        generalize grow U2s s2 s3 = U3s at *
        clear hd3 hf3 HD2s HU2s
        go_wp2_with fail
        refine Calls.mono (HD3s.out.openR HAG.out.2.1 HAG.out.2.2.1 (by have := HAG.out.2.2.2; omega) HAG.out.1) ?_
        rintro e s4 ⟨g4', rfl, hd4, hf4⟩
        have HX4s := hid (ext_frm HX3s.out hf4 HU3s.out)
        have HU4s := hid (grow_ge (W := s3) (W' := s4) HU3s.out HX3s.out.size)
        have HD4s := hid hd4
        generalize grow U3s s3 s4 = U4s at *
        have HON2 : Hid ((VS.mk (kept v1.d.start).1 (kept v1.d.start).2 (openS v1.d.start).2).d.off = false ∧ (VS.mk (kept v1.d.start).1 (kept v1.d.start).2 (openS v1.d.start).2).d.acts.length ≤ 5000 + 1000 * (k + 1)) := HON2.out
        generalize (VS.mk (kept v1.d.start).1 (kept v1.d.start).2 (openS v1.d.start).2) = v2 at *
        clear hd4 hf4 HD3s HU3s HAG HDt HUt HPt HXt
        have HDt := HD4s
        have HUt := HU4s
        have HPt := HP2
        have HONt := HON2
        have HXt := HX4s
        clear HD4s HU4s HP2 HON2 HX4s
        go_wp2_with fail
        have HALK := hid (HDt.out.alike HPt.out.ok HPt.out.may.nms HONt.out.1 (by have h1 := HONt.out.2; have h2 := HKN.out; omega))
        have HTEL := hid (fun W' (hW : Ext s4 W') => (HDt.out.below hW).tells HPt.out.none HPt.out.len)
        refine Calls.mono HALK.out ?_
        rintro e t5 ⟨rfl, hx5⟩
        have HX5 := hid hx5
        clear hx5
        go_wp2_with fail
        refine Calls.mono (HTEL.out t5 HX5.out) ?_
        rintro e t6 ⟨rfl, hx6⟩
        have HX6 := hid (HX5.out.trans' hx6)
        clear hx6
        go_wp2
        go_roundw
        case rel => exact ⟨k + 1, v2, U4s, g3, g4', HKN.out.1, by go_num, rfl, rfl, rfl, rfl, HDt.out.below HX6.out, HUt.out, HPt.out, HONt.out, HXt.out.trans' HX6.out⟩
        case measure => simp [intOf]; omega
    have hkn : k = n := by omega
    clear hkn
    go_wp2_with fail
    refine Calls.mono (HA.out wr (HX1.out.trans' HX.out)) ?_
    rintro e w2 ⟨rfl, hx2⟩
    go_wp2
    go_ret
    exact ⟨rfl, (HX1.out.trans' HX.out).trans' hx2⟩
end Go.Proofs.YtjapeaoebjmpnaaGreatDoor
