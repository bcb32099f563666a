/- The walks of Drop and Move. -/
import Derived.Test.YtikjckdoldiddaaGreatDoorC02
import Derived.Deep.QuietTactic
import Derived.BigQuiet
namespace Go.Proofs.YtikjckdoldiddaaGreatDoor
open Go.RowKit Go.Maps
set_option linter.unusedVariables false
set_option linter.unusedSimpArgs false
attribute [local go_sem] bmax2 bmin2 bmax_two bmin_two

theorem op_done {D : Nat → Prop} {w w1 w2 : World} {g : Nat} {r : Int × DS} {e : Ending} (hx : Ext w w1) (hl : ∀ q, D q → q < w.heap.size) (h : DoPost (grow D w w1) g r w1 e w2) : DoPost D g r w e w2 := by
  obtain ⟨h1, h2, h3⟩ := h
  have z1 := hx.size
  have z2 := h3.size
  exact ⟨h1, h2.more (grow.trans2 (by omega) (by omega)) (grow.lt hl (by omega)), (Frm.of_ext hx D).grow h3⟩
theorem op_same {D : Nat → Prop} {w w1 : World} {g : Nat} {s : DS} {z : Int} (h : DiskAt D w g s) (hx : Ext w w1) : DoPost D g (z, s) w (.returned (.int .i64 z)) w1 :=
  ⟨rfl, (h.below hx).more (fun q hq => .inl hq) (grow.lt h.lt hx.size), Frm.of_ext hx D⟩
theorem DiskIn.at_ {D : Nat → Prop} {w : World} {g : Nat} {s : DS} {ms ml : Nat} {av : Value} {H : List AcH} (h : DiskIn D w g s ms ml av H) : DiskAt D w g s := ⟨ms, ml, av, H, h⟩
/-- The region takes in what the call has made. -/
theorem DiskIn.wide {D : Nat → Prop} {w w1 : World} {g : Nat} {s : DS} {ms ml : Nat} {av : Value} {H : List AcH} (h : DiskIn D w g s ms ml av H) (hx : Ext w w1) : DiskIn (grow D w w1) w1 g s ms ml av H :=
  h.keep (fun q hq => ⟨.inl hq, hx.block q (h.lt q hq)⟩) (grow.lt h.lt hx.size)
theorem DiskIn.fresh {D : Nat → Prop} {w w1 : World} {g : Nat} {s : DS} {ms ml : Nat} {av : Value} {H : List AcH} (h : DiskIn D w g s ms ml av H) {q : Nat} (h1 : w.heap.size ≤ q) (h2 : q < w1.heap.size) : Imm (grow D w w1) g ms ml av q := by
  have l1 := h.lt g h.dg
  have l2 := h.lt ms h.dms
  have l3 := h.lt ml h.dml
  exact ⟨.inr ⟨h1, h2⟩, by omega, by omega, by omega, fun e => by have := h.lt q (h.dav q e.symm); omega⟩

set_option maxRecDepth 100000 in
set_option maxHeartbeats 1000000 in
theorem Drop_in {D : Nat → Prop} {w : World} {g : Nat} {s : DS} {ms ml : Nat} {av : Value} {H : List AcH} (h : DiskIn D w g s ms ml av H) (hok : s.Ok) (hcount : s.acts.length < 1000000000000) (n : Nm) (hn : n.length ≤ maxLen) :
    Calls Tryz.prog 59 #[.pointer (some ⟨g, 0, none⟩), .string ⟨n.toArray⟩] w (DoPost D g (s.drop n) w) := by
  have hx0 := ext_alloc w (.cells #[.string ⟨n.toArray⟩] 9)
  have hc0 : (w.alloc (.cells #[.string ⟨n.toArray⟩] 9)).cell? ⟨w.heap.size, 0, none⟩ = some (.string ⟨n.toArray⟩) := by unfold World.cell?; rw [heap_alloc_new]; rfl
  have HF := hid (find_in (h.below hx0) n hn)
  have HI := hid h
  have HOK := hid hok
  have HX0 := hid hx0
  have HC0 := hid hc0
  clear h hok hx0 hc0
  by_cases hf : s.find n = 0
  · have hr : s.drop n = s.does (.drop n) := by unfold DS.drop; simp [hf]
    rw [hr]
    rw [hf] at HF
    clear hr
    obtain ⟨ho, hm, b0, hg⟩ := DS.find_zero hf
    have HD := hid (fun W (h : DiskIn (grow D w W) W g s ms ml av H) (hav : ActV (Imm (grow D w W) g ms ml av) W (.func (.func 112) #[] #[.pointer (some ⟨w.heap.size, 0, none⟩)]) (.drop n)) =>
      do_drop h HOK.out ho hcount n (mayS_len hm).2 (by have := HOK.out.used; simp [ActS.data]; omega) (da := none) (dn := 0) (dc := 0) hav (ByF.nil_ _ _))
    clear hf ho hm hg
    go_enter Tryz.func59, Tryz.ntmps59
    go_wp2_with fail
    refine Calls.mono HF.out ?_
    rintro e w1 ⟨rfl, hx1⟩
    have HX1 := hid (Ext.trans' HX0.out hx1)
    have hc1 := (hx1.cell (p := ⟨w.heap.size, 0, none⟩) (by simp)).trans HC0.out
    have HC1 := hid hc1
    have hz1 : w.heap.size + 1 ≤ w1.heap.size := by have := hx1.size; simpa using this
    clear hx1 hc1 HF
    go_wp2_with fail
    refine Calls.mono (HD.out w1 (HI.out.wide HX1.out) ⟨w.heap.size, rfl, HI.out.fresh (Nat.le_refl _) (by omega), HC1.out⟩) ?_
    intro e w2 hd
    have HP := hid (op_done HX1.out HI.out.lt hd)
    obtain ⟨rfl, -, -⟩ := hd
    go_wp2
    go_ret
    exact HP.out
  have hr : s.drop n = (s.find n, s) := by unfold DS.drop; simp [hf]
  rw [hr]
  have hb : (s.find n != 0) = true := by simpa using hf
  clear hr
  generalize s.find n = z at *
  go_enter Tryz.func59, Tryz.ntmps59
  go_wp2_with (go_at_call 110; refine Calls.mono HF.out ?_; rintro e w1 ⟨rfl, hx1⟩)
  go_ret
  exact op_same HI.out.at_ (Ext.trans' HX0.out hx1)

end Go.Proofs.YtikjckdoldiddaaGreatDoor

/- The walk of Write. -/
namespace Go.Proofs.YtikjckdoldiddaaGreatDoor
open Go.RowKit Go.Maps
set_option linter.unusedVariables false
set_option linter.unusedSimpArgs false
attribute [local go_sem] bmax2 bmin2 bmax_two bmin_two

theorem own_look {w : World} {b m : Nat} {H : List (Nm × Value)} (h : w.ownsMap Tryz.prog 9 Rh b m (dat H)) (n : Nm) (hn : n.length ≤ maxLen) :
    (Instr.lookup 73 (.map (some b)) (.string ⟨n.toArray⟩) false).run Tryz.prog w = .ok ((tGet H n).getD (.slice none 0 0)) w := by
  obtain ⟨v, ps, hrun, hv⟩ := h.lookup lawS Tryz.underlying73 (zeroS w) (zd := .held (.slice none 0 0)) (zp := []) rfl (keyS n hn)
  rw [dat_at] at hv
  unfold Rh at hv
  simp only [Option.some.injEq, Prod.mk.injEq, DataW.held.injEq] at hv
  rw [hrun, hv.1]
theorem look_drew {F : Nat → Prop} {w : World} {b m : Nat} {H : List (Nm × Value)} {T : Tab} (h : w.ownsMap Tryz.prog 9 Rh b m (dat H)) (ht : TF F w H T) {n : Nm} (hn : n.length ≤ maxLen) {d : By} (hg : tGet T n = some d) :
    ∃ p c, ∀ q, (Instr.lookup 73 (.map (some b)) (.string ⟨n.toArray⟩) false).run Tryz.prog (w.drewN q) = .ok (.slice (some p) d.length c) (w.drewN q) := by
  rcases ht.get n with ⟨-, e⟩ | ⟨v, d', e1, e2, p, k, c, rfl, hb⟩
  · rw [hg] at e; cases e
  rw [hg] at e2; injection e2 with e2; subst e2
  obtain rfl : k = d.length := hb.1
  refine ⟨p, c, fun q => ?_⟩
  have h2 : (w.drewN q).ownsMap Tryz.prog 9 Rh b m (dat H) := h
  rw [own_look h2 n hn, e1]; rfl

set_option maxRecDepth 100000 in
set_option maxHeartbeats 8000000 in
theorem Write_in {D G : Nat → Prop} {w : World} {g : Nat} {s : DS} {ms ml : Nat} {av : Value} {H : List AcH} (h : DiskIn D w g s ms ml av H) (hok : s.Ok) (hcount : s.acts.length < 1000000000000) (n : Nm) (hn : n.length ≤ maxLen) (k : Int) (hk : In64 k)
    {a : Option Addr} {bn bc : Nat} {b : By} (hb : ByF G w a bn bc b) :
    Calls Tryz.prog 77 #[.pointer (some ⟨g, 0, none⟩), .string ⟨n.toArray⟩, .int .i64 k, .slice a bn bc] w (DoPost D g (s.write n k b) w) := by
  obtain ⟨hk1, hk2⟩ := hk
  have hx0 : Ext w ((w.alloc (.cells #[.string ⟨n.toArray⟩] 9)).alloc (.cells #[.int .i64 k] 3)) := Ext.trans' (ext_alloc _ _) (ext_alloc _ _)
  have hc0 : ((w.alloc (.cells #[.string ⟨n.toArray⟩] 9)).alloc (.cells #[.int .i64 k] 3)).cell? ⟨w.heap.size, 0, none⟩ = some (.string ⟨n.toArray⟩) := by
    rw [(ext_alloc (w.alloc (.cells #[.string ⟨n.toArray⟩] 9)) _).cell (by simp)]
    unfold World.cell?; rw [heap_alloc_new]; rfl
  have hc1 : ((w.alloc (.cells #[.string ⟨n.toArray⟩] 9)).alloc (.cells #[.int .i64 k] 3)).cell? ⟨w.heap.size + 1, 0, none⟩ = some (.int .i64 k) := by
    have := heap_alloc_new (w.alloc (.cells #[.string ⟨n.toArray⟩] 9)) (.cells #[.int .i64 k] 3)
    simp only [World.size_alloc] at this
    unfold World.cell?; rw [this]; rfl
  have hbn : bn = b.length := hb.1
  have hb47 : bn ≤ 140737488351232 := hb.2.2.1.2
  obtain ⟨-, hTl, hTt, hLt, hAt⟩ := hok.run
  have hu : s.used ≤ 40000000 := by unfold DS.used; omega
  have hus := hok.used
  have hr0 := hok.room0
  have hr1 := hok.room1
  have hwr : IntKind.i64.wrap (s.room - (s.used : Int)) = s.room - (s.used : Int) := IntWalk.i64_in _ (by omega)
  have HF := hid (find_in (h.below hx0) n hn)
  have HU := hid (fun (ho : s.off = false) W (hW : Ext w W) => Used_on (h.below hW) hok ho)
  obtain ⟨-, -, -, -, c4, c5, -, -, -, hgl⟩ := h.cells
  have HI := hid h
  have HOK := hid hok
  have HX0 := hid hx0
  have HC0 := hid hc0
  have HC1 := hid hc1
  have HB := hid hb
  have HBN := hid hbn
  clear h hok hx0 hc0 hc1 hb hbn hus hr0 hr1 hTt hLt hAt
  obtain ⟨us, hus⟩ : ∃ us, us = s.used := ⟨_, rfl⟩
  rw [← hus] at hwr hu
  have HUS := hid hus
  rw [← hus] at HU
  clear hus
  by_cases hA : s.find n = 21 ∧ k = 0
  · obtain ⟨hf, rfl⟩ := hA
    obtain ⟨hoff, hm, hg⟩ := DS.find_21 hf
    rw [hf] at HF
    have HUU := hid (HU.out hoff)
    clear HU
    by_cases hfull : s.seen.length ≥ 4096
    · have hr : s.write n 0 b = (7, s) := by unfold DS.write; rw [if_pos ⟨hf, rfl⟩, if_pos hfull]
      rw [hr]
      have hfb : decide ((4096 : Int) ≤ (s.seen.length : Int)) = true := by simp; omega
      clear hr hf hoff hm hg
      go_enter Tryz.func77, Tryz.ntmps77
      go_wp2_with fail
      refine Calls.mono HF.out ?_
      rintro e w1 ⟨rfl, hx1⟩
      have HX1 := hid (Ext.trans' HX0.out hx1)
      have cc0 := (hx1.cell (p := ⟨w.heap.size, 0, none⟩) (by simp; omega)).trans HC0.out
      have cc1 := (hx1.cell (p := ⟨w.heap.size + 1, 0, none⟩) (by simp)).trans HC1.out
      have cc4 := (HX1.out.cell (p := ⟨g, 4, none⟩) hgl).trans c4
      have cc5 := (HX1.out.cell (p := ⟨g, 5, none⟩) hgl).trans c5
      have hz1 : w.heap.size + 2 ≤ w1.heap.size := by have := hx1.size; simpa using this
      obtain ⟨HH, hHown, hHtf⟩ := HI.out.seen.below HX1.out
      have hHl : HH.length = s.seen.length := hHtf.len
      have HHO := hid hHown
      have HHL := hid hHl
      have HTF := hid hHtf
      have hg1 : g < w1.heap.size := by omega
      clear hx1 HF hHown hHtf hHl
      go_wp2_with (at_len; refine wpList_len_own _ rfl _ 73 rfl 9 37 Tryz.underlying73 Rh ms HH.length (dat HH) rfl HHO.out ?_; rw [dat_size, HHL.out])
      go_ret
      exact op_same HI.out.at_ HX1.out
    have hfb : decide ((4096 : Int) ≤ (s.seen.length : Int)) = false := by simp; omega
    have hr : s.write n 0 b = if (b.length : Int) > s.room - s.used then (7, s) else s.does (.write n 0 b) := by unfold DS.write; rw [if_pos ⟨hf, rfl⟩, if_neg hfull]
    have hfit : ActS.Fits (.write n 0 b) s.seen := ⟨(mayS_len hm).2, Nat.zero_le _, fun _ => by omega⟩
    rw [hr]
    have hoff2 := hoff
    rw [← HUS.out]
    clear hr hf hoff hm hg
    by_cases hover : (b.length : Int) > s.room - us
    · rw [if_pos hover]
      have hob : decide (s.room - (us : Int) < (bn : Int)) = true := by rw [HBN.out]; simpa using hover
      clear hover
      go_enter Tryz.func77, Tryz.ntmps77
      go_wp2_with fail
      refine Calls.mono HF.out ?_
      rintro e w1 ⟨rfl, hx1⟩
      have HX1 := hid (Ext.trans' HX0.out hx1)
      have cc0 := (hx1.cell (p := ⟨w.heap.size, 0, none⟩) (by simp; omega)).trans HC0.out
      have cc1 := (hx1.cell (p := ⟨w.heap.size + 1, 0, none⟩) (by simp)).trans HC1.out
      have cc4 := (HX1.out.cell (p := ⟨g, 4, none⟩) hgl).trans c4
      have cc5 := (HX1.out.cell (p := ⟨g, 5, none⟩) hgl).trans c5
      have hz1 : w.heap.size + 2 ≤ w1.heap.size := by have := hx1.size; simpa using this
      obtain ⟨HH, hHown, hHtf⟩ := HI.out.seen.below HX1.out
      have hHl : HH.length = s.seen.length := hHtf.len
      have HHO := hid hHown
      have HHL := hid hHl
      have HTF := hid hHtf
      have hg1 : g < w1.heap.size := by omega
      clear hx1 HF hHown hHtf hHl
      go_wp2_with (at_len; refine wpList_len_own _ rfl _ 73 rfl 9 37 Tryz.underlying73 Rh ms HH.length (dat HH) rfl HHO.out ?_; rw [dat_size, HHL.out])
      go_region_held3 (fun w' => w'.cell? ⟨g, 4, none⟩ = some (.int .i64 s.room)) (first | go_keep | exact y4) ((go_at_call 23; refine Calls.mono (HUU.out _ (by first | exact below_drewN HX1.out _ | exact HX1.out.drew | exact below_drewN (below_drewN HX1.out _) _)) ?_; rintro e w2 ⟨rfl, hx2⟩; have y4 := (hx2.cell (p := ⟨g, 4, none⟩) (by show g < w1.heap.size; omega)).trans cc4; have hx2 : Ext w1 w2 := ⟨hx2.os, hx2.tape, hx2.output, hx2.size, hx2.block⟩))
      go_wp2
      go_ret
      exact op_same HI.out.at_ (Ext.trans' HX1.out hx2)
    rw [if_neg hover]
    have hob : decide (s.room - (us : Int) < (bn : Int)) = false := by rw [HBN.out]; simpa using hover
    have hroom : ((ActS.data (.write n 0 b)).length : Int) ≤ s.room - s.used := by rw [← HUS.out]; simp only [ActS.data]; omega
    have HD := hid (fun W (h : DiskIn (grow D w W) W g s ms ml av H) (da : Option Addr) (dc : Nat) (hav : ActV (Imm (grow D w W) g ms ml av) W (.func (.func 121) #[] #[.pointer (some ⟨w.heap.size, 0, none⟩), .pointer (some ⟨w.heap.size + 1, 0, none⟩)]) (.write n 0 b)) (hby : ByF (Imm (grow D w W) g ms ml av) W da bn dc b) =>
      do_write h HOK.out hoff2 hcount n 0 b hfit hroom (da := da) (dn := bn) (dc := dc) hav hby)
    clear hover hroom hfit
    go_enter Tryz.func77, Tryz.ntmps77
    go_wp2_with fail
    refine Calls.mono HF.out ?_
    rintro e w1 ⟨rfl, hx1⟩
    have HX1 := hid (Ext.trans' HX0.out hx1)
    have cc0 := (hx1.cell (p := ⟨w.heap.size, 0, none⟩) (by simp; omega)).trans HC0.out
    have cc1 := (hx1.cell (p := ⟨w.heap.size + 1, 0, none⟩) (by simp)).trans HC1.out
    have cc4 := (HX1.out.cell (p := ⟨g, 4, none⟩) hgl).trans c4
    have cc5 := (HX1.out.cell (p := ⟨g, 5, none⟩) hgl).trans c5
    have hz1 : w.heap.size + 2 ≤ w1.heap.size := by have := hx1.size; simpa using this
    obtain ⟨HH, hHown, hHtf⟩ := HI.out.seen.below HX1.out
    have hHl : HH.length = s.seen.length := hHtf.len
    have HHO := hid hHown
    have HHL := hid hHl
    have HTF := hid hHtf
    have hg1 : g < w1.heap.size := by omega
    clear hx1 HF hHown hHtf hHl
    go_wp2_with (at_len; refine wpList_len_own _ rfl _ 73 rfl 9 37 Tryz.underlying73 Rh ms HH.length (dat HH) rfl HHO.out ?_; rw [dat_size, HHL.out])
    go_region_held3 (fun w' => w'.cell? ⟨g, 4, none⟩ = some (.int .i64 s.room)) (first | go_keep | exact y4) ((go_at_call 23; refine Calls.mono (HUU.out _ (by first | exact below_drewN HX1.out _ | exact HX1.out.drew | exact below_drewN (below_drewN HX1.out _) _)) ?_; rintro e w2 ⟨rfl, hx2⟩; have y4 := (hx2.cell (p := ⟨g, 4, none⟩) (by show g < w1.heap.size; omega)).trans cc4; have hx2 : Ext w1 w2 := ⟨hx2.os, hx2.tape, hx2.output, hx2.size, hx2.block⟩))
    have HX2 := hid (Ext.trans' HX1.out hx2)
    have z2 : w1.heap.size ≤ w2.heap.size := hx2.size
    have cd0 := (hx2.cell (p := ⟨w.heap.size, 0, none⟩) (by show w.heap.size < w1.heap.size; omega)).trans cc0
    have cd1 := (hx2.cell (p := ⟨w.heap.size + 1, 0, none⟩) (by show w.heap.size + 1 < w1.heap.size; omega)).trans cc1
    have CD0 := hid cd0
    have CD1 := hid cd1
    have HB2 := hid (HB.out.below HX2.out)
    clear hx2 cd0 cd1 cc0 cc1
    go_wp2_with (at_builtin; refine wpList_appB rfl (.tmp 55) (.tmp 56) rfl w2.heap.size _ 0 [] rfl (ownB_made w2 w2.heap.size (Nat.le_refl _)) a bn bc b rfl (HB2.out.below (ext_alloc w2 _)) (by omega) (by simp) ?_; intro g4 c4 w4 hown4 hx4; have HO4 := hid (OwnB.zero hown4); have HX4 := hid hx4; clear hown4 hx4)
    have hx24 : Ext w2 w4 := (ext_alloc w2 _).trans HX4.out
    have HX04 := hid (Ext.trans' HX2.out hx24)
    have hz4 : w2.heap.size ≤ w4.heap.size := hx24.size
    have hby := HO4.out.by_ hb47
    have HBY := hid (hby.more fun q hq => HI.out.fresh (w1 := w4) (by omega) hq.2)
    have ce0 := (hx24.cell (p := ⟨w.heap.size, 0, none⟩) (by show w.heap.size < w2.heap.size; omega)).trans CD0.out
    have ce1 := (hx24.cell (p := ⟨w.heap.size + 1, 0, none⟩) (by show w.heap.size + 1 < w2.heap.size; omega)).trans CD1.out
    have HAV := hid (show ActV (Imm (grow D w w4) g ms ml av) w4 (.func (.func 121) #[] #[.pointer (some ⟨w.heap.size, 0, none⟩), .pointer (some ⟨w.heap.size + 1, 0, none⟩)]) (.write n 0 b) from ⟨w.heap.size, w.heap.size + 1, rfl, HI.out.fresh (Nat.le_refl _) (by omega), HI.out.fresh (by omega) (by omega), ce0, ce1⟩)
    clear hby ce0 ce1 hx24
    go_wp2_with fail
    refine Calls.mono (HD.out w4 (HI.out.wide HX04.out) _ _ HAV.out HBY.out) ?_
    intro e w5 hd
    have HP := hid (op_done HX04.out HI.out.lt hd)
    obtain ⟨rfl, -, -⟩ := hd
    go_wp2
    go_ret
    exact HP.out
  by_cases hf : s.find n = 0
  · obtain ⟨hoff, hm, b0, hg⟩ := DS.find_zero hf
    rw [hf] at HF
    have HUU := hid (HU.out hoff)
    clear HU
    have hold : tOld s.seen n = b0 := by unfold tOld; rw [hg]; rfl
    have HG := hid hg
    have hnA : ¬ (s.find n = 21 ∧ k = 0) := hA
    by_cases hC : k < 0 ∨ k > (b0.length : Int)
    · have hr : s.write n k b = (1, s) := by unfold DS.write; rw [if_neg hA, if_neg (by rw [hf]; simp), if_pos (by rw [hold]; exact hC)]
      rw [hr]
      clear hr hf hoff hm hg hold hnA hA hwr
      by_cases hk0 : k < 0
      · have hkb : decide (k < 0) = true := by simpa using hk0
        clear hC
        go_enter Tryz.func77, Tryz.ntmps77
        go_wp2_with fail
        refine Calls.mono HF.out ?_
        rintro e w1 ⟨rfl, hx1⟩
        have HX1 := hid (Ext.trans' HX0.out hx1)
        have cc0 := (hx1.cell (p := ⟨w.heap.size, 0, none⟩) (by simp; omega)).trans HC0.out
        have cc1 := (hx1.cell (p := ⟨w.heap.size + 1, 0, none⟩) (by simp)).trans HC1.out
        have cc4 := (HX1.out.cell (p := ⟨g, 4, none⟩) hgl).trans c4
        have cc5 := (HX1.out.cell (p := ⟨g, 5, none⟩) hgl).trans c5
        have hz1 : w.heap.size + 2 ≤ w1.heap.size := by have := hx1.size; simpa using this
        obtain ⟨HH, hHown, hHtf⟩ := HI.out.seen.below HX1.out
        have hHl : HH.length = s.seen.length := hHtf.len
        have HHO := hid hHown
        have HHL := hid hHl
        have HTF := hid hHtf
        have hg1 : g < w1.heap.size := by omega
        clear hx1 HF hHown hHtf hHl
        clear hk0
        go_wp2
        refine wp_region_quiet_lit (by kernel_rfl) (by kernel_rfl) ?_
        repeat (any_goals (first | go_big_quiet_step (fail) | quiet_step (fail)))
        refine wpQuiet_nil ?_
        intro wq hwq
        obtain ⟨nq, hwq⟩ := hwq
        subst hwq
        go_wp2
        go_ret
        exact op_same HI.out.at_ (below_drewN HX1.out _)
      have hk0 : 0 ≤ k := by omega
      have hkb : decide (k < 0) = false := by simp; omega
      have hkl : decide ((b0.length : Int) < k) = true := by simp; omega
      clear hC
      go_enter Tryz.func77, Tryz.ntmps77
      go_wp2_with fail
      refine Calls.mono HF.out ?_
      rintro e w1 ⟨rfl, hx1⟩
      have HX1 := hid (Ext.trans' HX0.out hx1)
      have cc0 := (hx1.cell (p := ⟨w.heap.size, 0, none⟩) (by simp; omega)).trans HC0.out
      have cc1 := (hx1.cell (p := ⟨w.heap.size + 1, 0, none⟩) (by simp)).trans HC1.out
      have cc4 := (HX1.out.cell (p := ⟨g, 4, none⟩) hgl).trans c4
      have cc5 := (HX1.out.cell (p := ⟨g, 5, none⟩) hgl).trans c5
      have hz1 : w.heap.size + 2 ≤ w1.heap.size := by have := hx1.size; simpa using this
      obtain ⟨HH, hHown, hHtf⟩ := HI.out.seen.below HX1.out
      have hHl : HH.length = s.seen.length := hHtf.len
      have HHO := hid hHown
      have HHL := hid hHl
      have HTF := hid hHtf
      have hg1 : g < w1.heap.size := by omega
      clear hx1 HF hHown hHtf hHl
      obtain ⟨p1, c1, hl1⟩ := look_drew HHO.out HTF.out hn HG.out
      clear hk0
      go_wp2
      refine wp_region_quiet_lit (by kernel_rfl) (by kernel_rfl) ?_
      repeat (any_goals (first | go_big_quiet_step (fail) | quiet_step (fail)))
      refine wpQuiet_nil ?_
      intro wq hwq
      obtain ⟨nq, hwq⟩ := hwq
      subst hwq
      go_wp2
      go_ret
      exact op_same HI.out.at_ (below_drewN HX1.out _)
    have hk0 : 0 ≤ k := by omega
    obtain ⟨kk, hkk⟩ := Int.eq_ofNat_of_zero_le hk0
    have HKK := hid hkk
    have hkle : kk ≤ b0.length := by omega
    have hr : s.write n k b = if (b.length : Int) > s.room - s.used then (7, s) else s.does (.write n kk b) := by
      unfold DS.write; rw [if_neg hA, if_neg (by rw [hf]; simp), if_neg (by rw [hold]; exact hC)]; rw [hkk]; rfl
    have hfit : ActS.Fits (.write n kk b) s.seen := ⟨(mayS_len hm).2, by rw [hold]; exact hkle, fun e => by rw [hg] at e; cases e⟩
    rw [hr]
    have hkb : decide (k < 0) = false := by simp; omega
    have hkl : decide ((b0.length : Int) < k) = false := by simp; omega
    clear hC hkk hkle
    have hoff2 := hoff
    rw [← HUS.out]
    clear hr hf hoff hm hg hold hA hnA
    by_cases hover : (b.length : Int) > s.room - us
    · rw [if_pos hover]
      have hob : decide (s.room - (us : Int) < (bn : Int)) = true := by rw [HBN.out]; simpa using hover
      clear hover
      go_enter Tryz.func77, Tryz.ntmps77
      go_wp2_with fail
      refine Calls.mono HF.out ?_
      rintro e w1 ⟨rfl, hx1⟩
      have HX1 := hid (Ext.trans' HX0.out hx1)
      have cc0 := (hx1.cell (p := ⟨w.heap.size, 0, none⟩) (by simp; omega)).trans HC0.out
      have cc1 := (hx1.cell (p := ⟨w.heap.size + 1, 0, none⟩) (by simp)).trans HC1.out
      have cc4 := (HX1.out.cell (p := ⟨g, 4, none⟩) hgl).trans c4
      have cc5 := (HX1.out.cell (p := ⟨g, 5, none⟩) hgl).trans c5
      have hz1 : w.heap.size + 2 ≤ w1.heap.size := by have := hx1.size; simpa using this
      obtain ⟨HH, hHown, hHtf⟩ := HI.out.seen.below HX1.out
      have hHl : HH.length = s.seen.length := hHtf.len
      have HHO := hid hHown
      have HHL := hid hHl
      have HTF := hid hHtf
      have hg1 : g < w1.heap.size := by omega
      clear hx1 HF hHown hHtf hHl
      obtain ⟨p1, c1, hl1⟩ := look_drew HHO.out HTF.out hn HG.out
      go_wp2
      refine wp_region_quiet_lit (by kernel_rfl) (by kernel_rfl) ?_
      repeat (any_goals (first | go_big_quiet_step (fail) | quiet_step (fail)))
      refine wpQuiet_nil ?_
      intro wq hwq
      obtain ⟨nq, hwq⟩ := hwq
      subst hwq
      go_wp2
      go_region_held3 (fun w' => w'.cell? ⟨g, 4, none⟩ = some (.int .i64 s.room)) (first | go_keep | exact y4) ((go_at_call 23; refine Calls.mono (HUU.out _ (by first | exact below_drewN HX1.out _ | exact HX1.out.drew | exact below_drewN (below_drewN HX1.out _) _)) ?_; rintro e w2 ⟨rfl, hx2⟩; have y4 := (hx2.cell (p := ⟨g, 4, none⟩) (by show g < w1.heap.size; omega)).trans cc4; have hx2 : Ext w1 w2 := ⟨hx2.os, hx2.tape, hx2.output, hx2.size, hx2.block⟩))
      go_wp2
      go_ret
      exact op_same HI.out.at_ (Ext.trans' HX1.out hx2)
    rw [if_neg hover]
    have hob : decide (s.room - (us : Int) < (bn : Int)) = false := by rw [HBN.out]; simpa using hover
    have hroom : ((ActS.data (.write n kk b)).length : Int) ≤ s.room - s.used := by rw [← HUS.out]; simp only [ActS.data]; omega
    have HD := hid (fun W (h : DiskIn (grow D w W) W g s ms ml av H) (da : Option Addr) (dc : Nat) (hav : ActV (Imm (grow D w W) g ms ml av) W (.func (.func 121) #[] #[.pointer (some ⟨w.heap.size, 0, none⟩), .pointer (some ⟨w.heap.size + 1, 0, none⟩)]) (.write n kk b)) (hby : ByF (Imm (grow D w W) g ms ml av) W da bn dc b) =>
      do_write h HOK.out hoff2 hcount n kk b hfit hroom (da := da) (dn := bn) (dc := dc) hav hby)
    clear hover hroom hfit
    go_enter Tryz.func77, Tryz.ntmps77
    go_wp2_with fail
    refine Calls.mono HF.out ?_
    rintro e w1 ⟨rfl, hx1⟩
    have HX1 := hid (Ext.trans' HX0.out hx1)
    have cc0 := (hx1.cell (p := ⟨w.heap.size, 0, none⟩) (by simp; omega)).trans HC0.out
    have cc1 := (hx1.cell (p := ⟨w.heap.size + 1, 0, none⟩) (by simp)).trans HC1.out
    have cc4 := (HX1.out.cell (p := ⟨g, 4, none⟩) hgl).trans c4
    have cc5 := (HX1.out.cell (p := ⟨g, 5, none⟩) hgl).trans c5
    have hz1 : w.heap.size + 2 ≤ w1.heap.size := by have := hx1.size; simpa using this
    obtain ⟨HH, hHown, hHtf⟩ := HI.out.seen.below HX1.out
    have hHl : HH.length = s.seen.length := hHtf.len
    have HHO := hid hHown
    have HHL := hid hHl
    have HTF := hid hHtf
    have hg1 : g < w1.heap.size := by omega
    clear hx1 HF hHown hHtf hHl
    obtain ⟨p1, c1, hl1⟩ := look_drew HHO.out HTF.out hn HG.out
    go_wp2
    refine wp_region_quiet_lit (by kernel_rfl) (by kernel_rfl) ?_
    repeat (any_goals (first | go_big_quiet_step (fail) | quiet_step (fail)))
    refine wpQuiet_nil ?_
    intro wq hwq
    obtain ⟨nq, hwq⟩ := hwq
    subst hwq
    go_wp2
    go_region_held3 (fun w' => w'.cell? ⟨g, 4, none⟩ = some (.int .i64 s.room)) (first | go_keep | exact y4) ((go_at_call 23; refine Calls.mono (HUU.out _ (by first | exact below_drewN HX1.out _ | exact HX1.out.drew | exact below_drewN (below_drewN HX1.out _) _)) ?_; rintro e w2 ⟨rfl, hx2⟩; have y4 := (hx2.cell (p := ⟨g, 4, none⟩) (by show g < w1.heap.size; omega)).trans cc4; have hx2 : Ext w1 w2 := ⟨hx2.os, hx2.tape, hx2.output, hx2.size, hx2.block⟩))
    have HX2 := hid (Ext.trans' HX1.out hx2)
    have z2 : w1.heap.size ≤ w2.heap.size := hx2.size
    have cd0 := (hx2.cell (p := ⟨w.heap.size, 0, none⟩) (by show w.heap.size < w1.heap.size; omega)).trans cc0
    have cd1 := (hx2.cell (p := ⟨w.heap.size + 1, 0, none⟩) (by show w.heap.size + 1 < w1.heap.size; omega)).trans cc1
    have CD0 := hid cd0
    have CD1 := hid cd1
    have HB2 := hid (HB.out.below HX2.out)
    clear hx2 cd0 cd1 cc0 cc1
    go_wp2_with (at_builtin; refine wpList_appB rfl (.tmp 55) (.tmp 56) rfl w2.heap.size _ 0 [] rfl (ownB_made w2 w2.heap.size (Nat.le_refl _)) a bn bc b rfl (HB2.out.below (ext_alloc w2 _)) (by omega) (by simp) ?_; intro g4 c4 w4 hown4 hx4; have HO4 := hid (OwnB.zero hown4); have HX4 := hid hx4; clear hown4 hx4)
    have hx24 : Ext w2 w4 := (ext_alloc w2 _).trans HX4.out
    have HX04 := hid (Ext.trans' HX2.out hx24)
    have hz4 : w2.heap.size ≤ w4.heap.size := hx24.size
    have hby := HO4.out.by_ hb47
    have HBY := hid (hby.more fun q hq => HI.out.fresh (w1 := w4) (by omega) hq.2)
    have ce0 := (hx24.cell (p := ⟨w.heap.size, 0, none⟩) (by show w.heap.size < w2.heap.size; omega)).trans CD0.out
    have ce1 := (hx24.cell (p := ⟨w.heap.size + 1, 0, none⟩) (by show w.heap.size + 1 < w2.heap.size; omega)).trans CD1.out
    have HAV := hid (show ActV (Imm (grow D w w4) g ms ml av) w4 (.func (.func 121) #[] #[.pointer (some ⟨w.heap.size, 0, none⟩), .pointer (some ⟨w.heap.size + 1, 0, none⟩)]) (.write n kk b) from ⟨w.heap.size, w.heap.size + 1, rfl, HI.out.fresh (Nat.le_refl _) (by omega), HI.out.fresh (by omega) (by omega), ce0, by rw [← HKK.out]; exact ce1⟩)
    clear hby ce0 ce1 hx24
    go_wp2_with fail
    refine Calls.mono (HD.out w4 (HI.out.wide HX04.out) _ _ HAV.out HBY.out) ?_
    intro e w5 hd
    have HP := hid (op_done HX04.out HI.out.lt hd)
    obtain ⟨rfl, -, -⟩ := hd
    go_wp2
    go_ret
    exact HP.out
  have hr : s.write n k b = (s.find n, s) := by unfold DS.write; rw [if_neg hA, if_pos hf]
  rw [hr]
  have hb0 : (s.find n != 0) = true := by simpa using hf
  have hcase : ((s.find n == 21) = true ∧ (k == 0) = false) ∨ (s.find n == 21) = false := by
    by_cases h21 : s.find n = 21
    · exact .inl ⟨by simpa using h21, by simp; exact fun e => hA ⟨h21, e⟩⟩
    exact .inr (by simpa using h21)
  clear hr hA hf HU hwr
  generalize s.find n = z at *
  rcases hcase with ⟨h21, hk0⟩ | h21
  all_goals
    go_enter Tryz.func77, Tryz.ntmps77
    go_wp2_with fail
    refine Calls.mono HF.out ?_
    rintro e w1 ⟨rfl, hx1⟩
    have HX1 := hid (Ext.trans' HX0.out hx1)
    have cc0 := (hx1.cell (p := ⟨w.heap.size, 0, none⟩) (by simp; omega)).trans HC0.out
    have cc1 := (hx1.cell (p := ⟨w.heap.size + 1, 0, none⟩) (by simp)).trans HC1.out
    have cc4 := (HX1.out.cell (p := ⟨g, 4, none⟩) hgl).trans c4
    have cc5 := (HX1.out.cell (p := ⟨g, 5, none⟩) hgl).trans c5
    have hz1 : w.heap.size + 2 ≤ w1.heap.size := by have := hx1.size; simpa using this
    obtain ⟨HH, hHown, hHtf⟩ := HI.out.seen.below HX1.out
    have hHl : HH.length = s.seen.length := hHtf.len
    have HHO := hid hHown
    have HHL := hid hHl
    have HTF := hid hHtf
    have hg1 : g < w1.heap.size := by omega
    clear hx1 HF hHown hHtf hHl
    go_wp2
    go_ret
    exact op_same HI.out.at_ HX1.out
end Go.Proofs.YtikjckdoldiddaaGreatDoor

/- The walks of Sync, Read, List, Arm, Crash, Start, New, Clone. -/
namespace Go.Proofs.YtikjckdoldiddaaGreatDoor
open Go.RowKit Go.Maps
set_option linter.unusedVariables false
set_option linter.unusedSimpArgs false
attribute [local go_sem] bmax2 bmin2 bmax_two bmin_two

theorem sync_done {D : Nat → Prop} {w w5 w6 : World} {g : Nat} {s : DS} {ms ml mb : Nat} {av : Value} {H : List AcH} (h : DiskIn D w g s ms ml av H)
    (h5 : TabAt (fun q => w.heap.size ≤ q ∧ q < w5.heap.size ∧ q ≠ mb) w5 mb s.seen) (hmb : w.heap.size ≤ mb) (hx : Ext w w5)
    (hS : SetG g 76 w5 w6 #[.bool s.off, .int .i64 s.left, .int .i64 s.keep, .int .i64 s.tear, .int .i64 s.room, .map (some ms), .map (some mb), .slice none 0 0]) :
    DiskAt (grow D w w6) w6 g { s with last := s.seen, acts := [] } ∧ Frm D w w6 := by
  have hgl := h.lt g h.dg
  have hsl := h.lt ms h.dms
  have hgm := h.gms
  have z2 := hx.size
  have z3 := hS.size
  have hmb5 := h5.lt
  refine ⟨⟨ms, mb, .slice none 0 0, [], ?_⟩, (Frm.of_ext hx D).trans hS.frm fun q e => by subst e; exact .inl h.dg⟩
  refine disk_done (E := D) (F1 := Imm D g ms ml av) (F2 := fun q => w.heap.size ≤ q ∧ q < w5.heap.size ∧ q ≠ mb) (grow.lt h.lt (by omega)) (.inl h.dg) ?_ ?_ (by omega) rfl hS.obj (.inl h.dms) (.inr ⟨by omega, by omega⟩) ?_ ?_
  · exact (h.seen.below hx).keep (hS.frm.block ms (by omega) (fun e => hgm.1 e.symm)) fun q hq hl => ⟨hq, hS.frm.block q hl hq.2.1⟩
  · exact h5.keep (hS.frm.block mb hmb5 (by omega)) fun q hq hl => ⟨hq, hS.frm.block q hl (by omega)⟩
  · intro q hq _
    have := h.lt q hq.1
    exact ⟨.inl hq.1, hq.2.1, by omega, hq.2.2.1⟩
  intro q hq _
  exact ⟨.inr ⟨by omega, by omega⟩, by omega, by omega, hq.2.2⟩

set_option maxRecDepth 100000 in
set_option maxHeartbeats 4000000 in
theorem Sync_in {D : Nat → Prop} {w : World} {g : Nat} {s : DS} {ms ml : Nat} {av : Value} {H : List AcH} (h : DiskIn D w g s ms ml av H) (hok : s.Ok) (hcount : s.acts.length < 1000000000000) :
    Calls Tryz.prog 62 #[.pointer (some ⟨g, 0, none⟩)] w (DoPost D g s.sync w) := by
  obtain ⟨c0, c1, c2, c3, -, c5, c6, c7, hfz, hgl⟩ := h.cells
  obtain ⟨-, hTl, -, -, -⟩ := hok.run
  have hl0 := hok.left0
  have hl1 := hok.left1
  have hrd := ready_any c0 c5
  have hf1 := hfz 1
  have HR := hid hrd
  have HI := hid h
  have HOK := hid hok
  clear hrd h hok hfz
  cases hoff : s.off with
  | true =>
    have hr : s.sync = (22, s) := by unfold DS.sync; simp [hoff]
    rw [hr]
    rw [hoff] at HR
    clear hr hoff c0
    go_enter Tryz.func62, Tryz.ntmps62
    go_wp2_with (go_at_call 53; refine Calls.mono HR.out ?_; rintro e w' ⟨rfl, rfl⟩)
    go_ret
    exact op_same HI.out.at_ (Below.refl _ _)
  | false =>
    rw [hoff] at HR
    by_cases hl : s.left = 0
    · have hr : s.sync = (0, { s with last := s.seen, acts := [] }) := by unfold DS.sync DS.hit; simp [hoff, hl]
      rw [hr]
      have c1' := c1
      rw [hl] at c1'
      have HS := hid (copied_any HI.out.seen hTl)
      clear hr hoff c0 c1 hl
      go_enter Tryz.func62, Tryz.ntmps62
      go_wp2_with fail
      refine Calls.mono HR.out ?_
      rintro e w' ⟨rfl, rfl⟩
      go_wp2_with fail
      refine Calls.mono (struck_0 c1') ?_
      rintro e w' ⟨rfl, rfl⟩
      go_wp2_with fail
      refine Calls.mono HS.out ?_
      rintro e w5 ⟨mb, rfl, ht5, hmb, hx5⟩
      have hobj5 := (hx5.block g hgl).trans HI.out.obj
      have HO5 := hid hobj5
      have d6 := (hx5.cell (p := ⟨g, 6, none⟩) hgl).trans c6
      have d7 := (hx5.cell (p := ⟨g, 7, none⟩) hgl).trans c7
      obtain ⟨e6, e7⟩ : w5.frozen? ⟨g, 6, none⟩ = false ∧ w5.frozen? ⟨g, 7, none⟩ = false := by refine ⟨?_, ?_⟩ <;> simp [World.frozen?, hobj5]
      have HT5 := hid ht5
      have HX5 := hid hx5
      have hg5 : g < w5.heap.size := Nat.lt_of_lt_of_le hgl hx5.size
      clear hobj5 ht5 hx5
      obtain ⟨a, c, rfl, hHc, hac⟩ := HI.out.av_form
      go_wp2
      go_ret
      obtain ⟨r1, r2⟩ := sync_done HI.out HT5.out hmb HX5.out (((SetG.start HO5.out).step 6 _).step 7 _)
      exact ⟨rfl, r1, r2⟩
    obtain ⟨hD4, hFr4⟩ := HI.out.setLeft (s.left - 1)
    have hok2 := HOK.out.left hl
    have hst := struck_n c1 hf1 hl hl0 hl1
    have HST := hid hst
    clear hst
    by_cases h1 : s.left = 1
    · have hr : s.sync = (22, DS.fall { s with left := s.left - 1 } s.keep s.tear) := by unfold DS.sync DS.hit; simp [hoff, hl, h1]
      rw [hr]
      have hd1 : decide (s.left = 1) = true := by simpa using h1
      rw [hd1] at HST
      clear hr hoff c0 c1 hd1 hf1
      go_enter Tryz.func62, Tryz.ntmps62
      go_wp2_with fail
      refine Calls.mono HR.out ?_
      rintro e w' ⟨rfl, rfl⟩
      go_wp2_with fail
      refine Calls.mono HST.out ?_
      rintro e w4 ⟨rfl, hw4⟩
      rw [← hw4] at hD4 hFr4
      have hz : w4.heap.size = w.heap.size := by rw [hw4]; simp [World.setCell]
      obtain ⟨-, -, p2, p3, -, -, -, -, -, pg⟩ := hD4.cells
      dsimp only at p2 p3
      have HD4 := hid (hD4.below (ext_drew w4))
      have HFR4 := hid (hFr4.then_ext (ext_drew w4))
      have hkk := hok2.k64
      have htt := hok2.t64
      have HOK2 := hid hok2
      have HKK := hid hkk
      have HTT := hid htt
      have HZ := hid hz
      clear hD4 hFr4 hw4 hok2 hkk htt hl h1 c2 c3 hz
      go_wp2_with fail
      go_still_tail 11, (by kernel_rfl)
      change wpList _ _ _ _ _ w4.drew
      go_wp2_with (go_at_call 54; refine Calls.mono (fall_in HD4.out HOK2.out (by show s.acts.length ≤ _; omega) s.keep s.tear HKK.out HTT.out) ?_; rintro e w5 ⟨rfl, hd5, hf5⟩; have HD5 := hid hd5; have HF5 := hid hf5; clear hd5 hf5)
      go_ret
      have z4 : w4.drew.heap.size = w.heap.size := HZ.out
      have z5 := HF5.out.size
      exact ⟨rfl, HD5.out.more (fun q hq => by rcases hq with hq | hq; exact .inl hq; exact .inr ⟨by omega, hq.2⟩) (grow.lt HI.out.lt (by omega)), HFR4.out.trans HF5.out fun q hq => .inl hq⟩
    have hr : s.sync = (0, { s with last := s.seen, acts := [], left := s.left - 1 }) := by unfold DS.sync DS.hit; simp [hoff, hl, h1]
    rw [hr]
    have hd1 : decide (s.left = 1) = false := by simpa using h1
    rw [hd1] at HST
    clear hr hoff c0 c1 hd1 hf1
    go_enter Tryz.func62, Tryz.ntmps62
    go_wp2_with fail
    refine Calls.mono HR.out ?_
    rintro e w' ⟨rfl, rfl⟩
    go_wp2_with fail
    refine Calls.mono HST.out ?_
    rintro e w4 ⟨rfl, hw4⟩
    rw [← hw4] at hD4 hFr4
    have hz : w4.heap.size = w.heap.size := by rw [hw4]; simp [World.setCell]
    obtain ⟨-, -, -, -, -, p5, p6, p7, pf, pg⟩ := hD4.cells
    have HD4 := hid hD4
    have HFR4 := hid hFr4
    have HZ := hid hz
    have HS := hid (copied_any hD4.seen hTl)
    clear hD4 hFr4 hw4 hok2 hl h1 c2 c3 hz pf c5 c6 c7
    go_wp2_with fail
    refine Calls.mono HS.out ?_
    rintro e w5 ⟨mb, rfl, ht5, hmb, hx5⟩
    have hobj5 := (hx5.block g pg).trans HD4.out.obj
    have HO5 := hid hobj5
    have d6 := (hx5.cell (p := ⟨g, 6, none⟩) pg).trans p6
    have d7 := (hx5.cell (p := ⟨g, 7, none⟩) pg).trans p7
    obtain ⟨e6, e7⟩ : w5.frozen? ⟨g, 6, none⟩ = false ∧ w5.frozen? ⟨g, 7, none⟩ = false := by refine ⟨?_, ?_⟩ <;> simp [World.frozen?, hobj5]
    have HT5 := hid ht5
    have HX5 := hid hx5
    have hg5 : g < w5.heap.size := Nat.lt_of_lt_of_le pg hx5.size
    clear hobj5 ht5 hx5
    obtain ⟨a, c, rfl, hHc, hac⟩ := HI.out.av_form
    go_wp2
    go_ret
    obtain ⟨r1, r2⟩ := sync_done HD4.out HT5.out hmb HX5.out (((SetG.start HO5.out).step 6 _).step 7 _)
    have z4 := HZ.out
    exact ⟨rfl, r1.more (fun q hq => by rcases hq with hq | hq; exact .inl hq; exact .inr ⟨by omega, hq.2⟩) (grow.lt HI.out.lt (by have := r2.size; omega)), HFR4.out.trans r2 fun q hq => .inl hq⟩
end Go.Proofs.YtikjckdoldiddaaGreatDoor
