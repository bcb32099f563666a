/- The walk of write. Printed by gen_ww.py. -/
import Derived.Test.YtikjckdoldiddaaGreatDoorC19
namespace Go.Proofs.YtikjckdoldiddaaGreatDoor
open Go.RowKit Go.Maps
set_option linter.unusedVariables false
set_option linter.unusedSimpArgs false
attribute [local go_sem] bmax2 bmin2 bmax_two bmin_two

/-- Bytes are written into a segment, at its end. -/
def Lo.put (v : Lo) (tt sz : Nat) (b : By) : Int × Lo :=
  if (v.d.write (fileW tt) (sz : Int) b).1 ≠ 0 then ((v.d.write (fileW tt) (sz : Int) b).1, ⟨v.s, (v.d.write (fileW tt) (sz : Int) b).2⟩)
  else (0, ⟨⟨v.s.v, max v.s.fr 1, tt, sz + b.length⟩, (v.d.write (fileW tt) (sz : Int) b).2⟩)
def Lo.write (v : Lo) (b : By) : Int × Lo :=
  if v.s.tt = 0 then v.put 1 0 (wv0.whole ++ b) else if 2048 ≤ v.s.sz then v.put (v.s.tt + 1) 0 b else v.put v.s.tt v.s.sz b
/-- A log and its disk, with the blocks of each: the disk's D, the entries' G. -/
def LoX (D G : Nat → Prop) (w : World) (g dg : Nat) (v : Lo) : Prop :=
  DiskAt D w dg v.d ∧ LgB G w g (.pointer (some ⟨dg, 0, none⟩)) v.s.v v.s.fr v.s.tt v.s.sz ∧ (∀ q, D q → q ≠ g ∧ ¬ G q) ∧ (∀ q, G q → q ≠ g ∧ q < w.heap.size)
def LoXPost (D G : Nat → Prop) (g dg : Nat) (r : Int × Lo) (w : World) (e : Ending) (w' : World) : Prop :=
  e = .returned (.int .i64 r.1) ∧ (∃ D', (∀ q, D' q → D q ∨ (w.heap.size ≤ q ∧ q < w'.heap.size)) ∧ LoX D' G w' g dg r.2) ∧ Frm (fun q => D q ∨ q = g) w w'
theorem LoX.set3 {D G : Nat → Prop} {w : World} {g dg : Nat} {v : Lo} (h : LoX D G w g dg v) (a b c : Nat) :
    LoX D G (((w.setCell ⟨g, 6, none⟩ (.int .i64 (a : Int))).setCell ⟨g, 7, none⟩ (.int .i64 (b : Int))).setCell ⟨g, 8, none⟩ (.int .i64 (c : Int))) g dg ⟨⟨v.s.v, a, b, c⟩, v.d⟩ ∧
      Frm (fun q => q = g) w (((w.setCell ⟨g, 6, none⟩ (.int .i64 (a : Int))).setCell ⟨g, 7, none⟩ (.int .i64 (b : Int))).setCell ⟨g, 8, none⟩ (.int .i64 (c : Int))) ∧
      (((w.setCell ⟨g, 6, none⟩ (.int .i64 (a : Int))).setCell ⟨g, 7, none⟩ (.int .i64 (b : Int))).setCell ⟨g, 8, none⟩ (.int .i64 (c : Int))).heap.size = w.heap.size := by
  obtain ⟨h1, h2, h3, h4⟩ := h
  obtain ⟨la, ln, lc, o1, o2⟩ := h2
  have hS := (((SetG.start o1).step 6 (.int .i64 (a : Int))).step 7 (.int .i64 (b : Int))).step 8 (.int .i64 (c : Int))
  refine ⟨⟨h1.frm hS.frm fun q hq e => (h3 q hq).1 e, ⟨la, ln, lc, hS.obj, o2.keep fun q hq hl => ⟨hq, hS.frm.block q hl fun e => (h4 q hq).1 e⟩⟩, h3, fun q hq => ⟨(h4 q hq).1, ?_⟩⟩, hS.frm, hS.size⟩
  rw [hS.size]; exact (h4 q hq).2
theorem LoX.disk {D G : Nat → Prop} {w w1 w2 : World} {g dg : Nat} {s : Wl} {d : DS} (h2 : LgB G w1 g (.pointer (some ⟨dg, 0, none⟩)) s.v s.fr s.tt s.sz) (h3 : ∀ q, D q → q ≠ g ∧ ¬ G q) (h4 : ∀ q, G q → q ≠ g ∧ q < w.heap.size) (hg : g < w.heap.size)
    (hx : Ext w w1) (hp : DiskAt (Go.Proofs.YtikjckdoldiddaaGreatDoor.grow D w1 w2) w2 dg d) (hf : Frm D w1 w2) : (∃ D', (∀ q, D' q → D q ∨ (w.heap.size ≤ q ∧ q < w2.heap.size)) ∧ LoX D' G w2 g dg ⟨s, d⟩) ∧ Frm (fun q => D q ∨ q = g) w w2 := by
  have z1 := hx.size
  have z2 := hf.size
  have hgD : ¬ D g := fun h => (h3 g h).1 rfl
  refine ⟨⟨Go.Proofs.YtikjckdoldiddaaGreatDoor.grow D w1 w2, fun q hq => ?_, hp, h2.keep (hf.block g h2.lt hgD) fun k hk hl => ⟨hk, hf.block k hl fun hD => (h3 k hD).2 hk⟩, fun q hq => ?_, fun q hq => ⟨(h4 q hq).1, by have := (h4 q hq).2; omega⟩⟩, (Frm.after_ext hx hf).more fun q hq => .inl hq⟩
  · rcases hq with hq | hq
    · exact .inl hq
    exact .inr ⟨by omega, hq.2⟩
  rcases hq with hq | hq
  · exact h3 q hq
  exact ⟨by omega, fun hG => by have := (h4 q hG).2; omega⟩
theorem LoX.done {A D G : Nat → Prop} {w w' : World} {g dg : Nat} {r : Int × Lo} {e : Ending} (hD : ∀ q, D q → A q) (hG : ∀ q, G q → A q) (hg : A g) (hl : ∀ q, A q → q < w.heap.size) (h : LoXPost D G g dg r w e w') : LoPost A g dg r w e w' := by
  obtain ⟨h1, ⟨D', h2, x1, x2, x3, x4⟩, h3⟩ := h
  have z := h3.size
  refine ⟨h1, ⟨D', G, x1, x2, fun q hq => ⟨?_, x3 q hq⟩, fun q hq => ⟨.inl (hG q hq), (x4 q hq).1⟩, .inl hg, fun q hq => ?_⟩, h3.more fun q hq => ?_⟩
  · rcases h2 q hq with h | h
    · exact .inl (hD q h)
    exact .inr h
  · rcases hq with hq | hq
    · have := hl q hq; omega
    exact hq.2
  rcases hq with hq | rfl
  · exact hD q hq
  exact hg
set_option maxRecDepth 100000 in
set_option maxHeartbeats 8000000 in
theorem write_x {D G F : Nat → Prop} {w : World} {g dg : Nat} {v : Lo} (h : LoX D G w g dg v) (hok : v.d.Ok) (hc : v.d.acts.length ≤ 1000000000) (htt : v.s.tt < 100000000000) (hsz : v.s.sz ≤ 100000000000000) {ba : Option Addr} {bn bc : Nat} {b : By} (hb : ByF F w ba bn bc b) (hbl : b.length ≤ 1000000000) (hT : TabP w) :
    Calls Tryz.prog 66 #[.pointer (some ⟨g, 0, none⟩), .slice ba bn bc] w (LoXPost D G g dg (v.write b) w) := by
  obtain ⟨h1, h2, h3, h4⟩ := h
  have HD := hid h1
  have HLG := hid h2
  have H3 := hid h3
  have H4 := hid h4
  have HOK := hid hok
  have HC := hid hc
  have HB := hid hb
  have HBL := hid hbl
  have HT := hid hT
  have HGL := hid h2.lt
  have hbn := hb.1
  have HBN := hid hbn
  have HCC := hid (fun W (hW : Frm D w W) => (h2.keep (w' := W) (G := G) (hW.block g h2.lt fun h => (h3 g h).1 rfl) fun q hq hl => ⟨hq, hW.block q hl fun h => (h3 q h).2 hq⟩))
  obtain ⟨⟨⟨vv, fr, tt, sz⟩, d⟩, hve⟩ : ∃ x, x = v := ⟨_, rfl⟩
  subst hve
  dsimp only at *
  clear h1 h2 h3 h4 hok hc hb hbl hT hbn
  have HTT := hid htt
  have HSZ := hid hsz
  by_cases ht0 : tt = 0
  · have htb : ((tt : Int) == 0) = true := by simpa using ht0
    have htc : (tt == 0) = true := by simpa using ht0
    obtain ⟨-, -, c7, -, -⟩ := (HCC.out w (Frm.refl _ _)).cells
    have HT0 := hid ht0
    have hx1 := ext_alloc w (.cells #[.int .i64 0, .int .i64 0, .int .i64 0, .int .i64 0, .slice none 0 0] 62)
    have hn1 := heap_alloc_new w (.cells #[.int .i64 0, .int .i64 0, .int .i64 0, .int .i64 0, .slice none 0 0] 62)
    have HX1 := hid hx1
    have HN1 := hid hn1
    have hWL := wholeB_le wv0 (fun x hx => by cases hx)
    have hWL2 : (wv0.whole ++ b).length ≤ 2000000000 := by
      rw [List.length_append]
      have h1 : wv0.whole.length ≤ 4146 * 0 + 200 := hWL
      have := HBL.out
      omega
    have HWH := hid (whole_any (v := wv0) (VwAt.of hn1 (EsF.nil_ (fun _ => False) _) Wl.zero_fine.v (by omega)) (fun x hx => by cases hx))
    obtain ⟨WB, hWB⟩ : ∃ WB, WB = wv0.whole := ⟨_, rfl⟩
    rw [← hWB] at HWH hWL2 hWL
    have HWB := hid hWB
    have HBL3 := hid hWL2
    have HWL := hid (show WB.length ≤ 200 from hWL)
    clear hx1 hn1 hWL hWL2 hWB ht0
    go_enter Tryz.func66, Tryz.ntmps66
    go_wp2_with fail
    refine Calls.mono HWH.out ?_
    rintro e w2 ⟨q1, n1, c1, rfl, ho1, hx2⟩
    have HO1 := hid (ho1.any (by have h1 := ho1.1; have h2 := HWL.out; omega))
    have HX2 := hid (HX1.out.trans' hx2)
    clear ho1 hx2 HWH c7
    go_wp2_with fail
    refine Calls.mono (join_two HO1.out (HB.out.below HX2.out) rfl (by have := HBL3.out; omega) 37) ?_
    rintro e w4 ⟨q2, n2, c2, rfl, ho2, hx4⟩
    have HX4 := hid (HX2.out.trans' ((ext_alloc _ _).trans' hx4))
    have HB4 := hid (ho2.any (by have h1 := ho2.1; have h2 := HBL3.out; omega))
    clear ho2 hx4
    go_wp2
    have HX3 := hid (HX4.out.trans' (ext_drew w4))
    have HX13 := hid (ext_drew w4)
    have y0 : Frm D w w4.drew := Frm.of_ext HX3.out _
    refine wp_region_held_drew (S := fun W' => Frm D w W') (by kernel_rfl) y0 (fun hH => ?_)
    clear hH
    generalize w4.drew = w3 at *
    refine held_run (i := 0) (v := .pointer (some ⟨g, 0, none⟩)) rfl (by kernel_rfl) (by kernel_rfl) (by kernel_rfl) (fun _ _ _ h => h) (by rfl) y0 (fun W hW => ?_) ?_
    · (clear hW; go_simp)
    try simp only [Act.put, List.setIfInBounds_toArray, List.set_cons_zero, List.set_cons_succ]
    refine held_run (i := 1) (v := .pointer (some ⟨g, 0, none⟩)) rfl (by kernel_rfl) (by kernel_rfl) (by kernel_rfl) (fun _ _ _ h => h) (by rfl) y0 (fun W hW => ?_) ?_
    · (clear hW; go_simp)
    try simp only [Act.put, List.setIfInBounds_toArray, List.set_cons_zero, List.set_cons_succ]
    refine held_run (i := 2) (v := .pointer (some ⟨g, 7, none⟩)) rfl (by kernel_rfl) (by kernel_rfl) (by kernel_rfl) (fun _ _ _ h => h) (by rfl) y0 (fun W hW => ?_) ?_
    · (clear hW; go_simp)
    try simp only [Act.put, List.setIfInBounds_toArray, List.set_cons_zero, List.set_cons_succ]
    refine held_run (i := 3) (v := .int .i64 (tt : Int)) rfl (by kernel_rfl) (by kernel_rfl) (by kernel_rfl) (fun _ _ _ h => h) (by rfl) y0 (fun W hW => ?_) ?_
    · (obtain ⟨c5, c6, c7, c8, -⟩ := (HCC.out W hW).cells; clear hW; go_simp)
    try simp only [Act.put, List.setIfInBounds_toArray, List.set_cons_zero, List.set_cons_succ]
    refine held_run (i := 4) (v := .pointer (some ⟨g, 0, none⟩)) rfl (by kernel_rfl) (by kernel_rfl) (by kernel_rfl) (fun _ _ _ h => h) (by rfl) y0 (fun W hW => ?_) ?_
    · (clear hW; go_simp)
    try simp only [Act.put, List.setIfInBounds_toArray, List.set_cons_zero, List.set_cons_succ]
    refine held_run (i := 5) (v := .pointer (some ⟨g, 0, none⟩)) rfl (by kernel_rfl) (by kernel_rfl) (by kernel_rfl) (fun _ _ _ h => h) (by rfl) y0 (fun W hW => ?_) ?_
    · (clear hW; go_simp)
    try simp only [Act.put, List.setIfInBounds_toArray, List.set_cons_zero, List.set_cons_succ]
    refine held_run (i := 6) (v := .pointer (some ⟨g, 8, none⟩)) rfl (by kernel_rfl) (by kernel_rfl) (by kernel_rfl) (fun _ _ _ h => h) (by rfl) y0 (fun W hW => ?_) ?_
    · (clear hW; go_simp)
    try simp only [Act.put, List.setIfInBounds_toArray, List.set_cons_zero, List.set_cons_succ]
    refine held_run (i := 7) (v := .int .i64 (sz : Int)) rfl (by kernel_rfl) (by kernel_rfl) (by kernel_rfl) (fun _ _ _ h => h) (by rfl) y0 (fun W hW => ?_) ?_
    · (obtain ⟨c5, c6, c7, c8, -⟩ := (HCC.out W hW).cells; clear hW; go_simp)
    try simp only [Act.put, List.setIfInBounds_toArray, List.set_cons_zero, List.set_cons_succ]
    refine held_run (i := 8) (v := .int .i64 (tt : Int)) rfl (by kernel_rfl) (by kernel_rfl) (by kernel_rfl) (fun _ _ _ h => h) (by rfl) y0 (fun W hW => ?_) ?_
    · (clear hW; go_simp)
    try simp only [Act.put, List.setIfInBounds_toArray, List.set_cons_zero, List.set_cons_succ]
    refine held_run (i := 9) (v := .int .i64 (sz : Int)) rfl (by kernel_rfl) (by kernel_rfl) (by kernel_rfl) (fun _ _ _ h => h) (by rfl) y0 (fun W hW => ?_) ?_
    · (clear hW; go_simp)
    try simp only [Act.put, List.setIfInBounds_toArray, List.set_cons_zero, List.set_cons_succ]
    refine wpAnyH_done (by kernel_rfl) ?_ _
    clear y0
    have hw1 : IntKind.i64.wrap ((tt : Int) + 1) = ((tt + 1 : Nat) : Int) := by rw [IntWalk.i64_in _ ⟨by omega, by omega⟩]; omega
    have HEV := hid (show Lo.write ⟨⟨vv, fr, tt, sz⟩, d⟩ b = Lo.put ⟨⟨vv, fr, tt, sz⟩, d⟩ (tt + 1) (0) (WB ++ b) from by unfold Lo.write; dsimp only; rw [if_pos HT0.out, HWB.out, HT0.out])
    have ht2l : (tt + 1) < 1000000000000 := by have := HTT.out; omega
    have HWR := hid (fun W' (hW : Ext w3 W') => Write_at (HD.out.below (HX3.out.trans' hW)) HOK.out (by have := HC.out; omega) (fileW (tt + 1)) (by rw [fileW_len ht2l]; decide) (((0) : Nat) : Int) ⟨by have := HSZ.out; omega, by have := HSZ.out; omega⟩ ((HB4.out.below HX13.out).below hW))
    have HNA := hid (fun W' (hW : Ext w3 W') => nameW_any (HT.out.ext (HX3.out.trans' hW)) ht2l)
    have hev := HEV.out
    unfold Lo.put at hev
    dsimp only at hev
    obtain ⟨r, hr⟩ : ∃ r, r = d.write (fileW (tt + 1)) (((0) : Nat) : Int) (WB ++ b) := ⟨_, rfl⟩
    rw [← hr] at HWR hev
    obtain ⟨f, hf⟩ : ∃ f, f = fileW (tt + 1) := ⟨_, rfl⟩
    rw [← hf] at HWR HNA
    have e0 : (((0 : Nat)) : Int) = 0 := rfl
    rw [e0] at HWR
    obtain ⟨r1, r2⟩ := r
    dsimp only at hev
    have HEV2 := hid hev
    clear hev hr hf HEV
    go_wp2
    have y0 : Frm D w w3.drew := Frm.of_ext (HX3.out.trans' (ext_drew w3)) _
    refine wp_region_held_drew (S := fun W' => Frm D w W') (by kernel_rfl) y0 (fun hH => ?_)
    clear hH
    refine held_run (i := 0) (v := .pointer (some ⟨g, 0, none⟩)) rfl (by kernel_rfl) (by kernel_rfl) (by kernel_rfl) (fun _ _ _ h => h) (by rfl) y0 (fun W hW => ?_) ?_
    · (clear hW; go_simp)
    try simp only [Act.put, List.setIfInBounds_toArray, List.set_cons_zero, List.set_cons_succ]
    refine held_run (i := 1) (v := .pointer (some ⟨g, 0, none⟩)) rfl (by kernel_rfl) (by kernel_rfl) (by kernel_rfl) (fun _ _ _ h => h) (by rfl) y0 (fun W hW => ?_) ?_
    · (clear hW; go_simp)
    try simp only [Act.put, List.setIfInBounds_toArray, List.set_cons_zero, List.set_cons_succ]
    refine held_run (i := 2) (v := .pointer (some ⟨g, 5, none⟩)) rfl (by kernel_rfl) (by kernel_rfl) (by kernel_rfl) (fun _ _ _ h => h) (by rfl) y0 (fun W hW => ?_) ?_
    · (clear hW; go_simp)
    try simp only [Act.put, List.setIfInBounds_toArray, List.set_cons_zero, List.set_cons_succ]
    refine held_run (i := 3) (v := .pointer (some ⟨dg, 0, none⟩)) rfl (by kernel_rfl) (by kernel_rfl) (by kernel_rfl) (fun _ _ _ h => h) (by rfl) y0 (fun W hW => ?_) ?_
    · (obtain ⟨c5, c6, c7, c8, -⟩ := (HCC.out W hW).cells; clear hW; go_simp)
    try simp only [Act.put, List.setIfInBounds_toArray, List.set_cons_zero, List.set_cons_succ]
    refine held_run (i := 4) (v := .int .i64 (((tt + 1) : Nat) : Int)) rfl (by kernel_rfl) (by kernel_rfl) (by kernel_rfl) (fun _ _ _ h => h) (by rfl) y0 (fun W hW => ?_) ?_
    · (clear hW; go_simp)
    try simp only [Act.put, List.setIfInBounds_toArray, List.set_cons_zero, List.set_cons_succ]
    refine held_run (i := 6) (v := .int .i64 0) rfl (by kernel_rfl) (by kernel_rfl) (by kernel_rfl) (fun _ _ _ h => h) (by rfl) y0 (fun W hW => ?_) ?_
    · (clear hW; go_simp)
    try simp only [Act.put, List.setIfInBounds_toArray, List.set_cons_zero, List.set_cons_succ]
    refine held_run (i := 7) (v := .slice (some ⟨q2, 0, none⟩) n2 c2) rfl (by kernel_rfl) (by kernel_rfl) (by kernel_rfl) (fun _ _ _ h => h) (by rfl) y0 (fun W hW => ?_) ?_
    · (clear hW; go_simp)
    try simp only [Act.put, List.setIfInBounds_toArray, List.set_cons_zero, List.set_cons_succ]
    refine wpAnyH_ready (rs := [5]) (by kernel_rfl) (by simp) ?_
    refine held_cons (i := 5) rfl (fun K hK => ?_)
    go_simp
    go_at_call 61
    refine Calls.mono (HNA.out _ (ext_drew w3)) ?_
    rintro e w7 ⟨rfl, hx1⟩
    have y1 : Frm D w w7 := Frm.of_ext (HX3.out.trans' ((ext_drew w3).trans' hx1)) _
    have HX7 := hid ((ext_drew w3).trans' hx1)
    clear hx1
    dsimp only
    refine hK.out _ _ y1 (fun hH => ?_)
    clear hK K y0 hH
    have y0 := y1
    clear y1
    try simp only [Act.put, List.setIfInBounds_toArray, List.set_cons_zero, List.set_cons_succ]
    refine wpAnyH_ready (rs := [8]) (by kernel_rfl) (by simp) ?_
    refine held_cons (i := 8) rfl (fun K hK => ?_)
    go_simp
    go_at_call 77
    refine Calls.mono (HWR.out _ HX7.out) ?_
    rintro e w8 hE
    have HX37 := hid (HX3.out.trans' HX7.out)
    have HLN := hid (LoX.disk (w := w) (s := ⟨vv, fr, tt, sz⟩) (d := r2) (HLG.out.below HX37.out) H3.out H4.out HGL.out HX37.out hE.2.1 hE.2.2)
    have y1 : Frm D w w8 := Frm.after_ext HX37.out hE.2.2
    obtain ⟨rfl, -, -⟩ := hE
    dsimp only at *
    refine hK.out _ _ y1 (fun hH => ?_)
    clear hK K y0 hH
    have y0 := y1
    clear y1
    try simp only [Act.put, List.setIfInBounds_toArray, List.set_cons_zero, List.set_cons_succ]
    refine held_run (i := 9) (v := .int .i64 r1) rfl (by kernel_rfl) (by kernel_rfl) (by kernel_rfl) (fun _ _ _ h => h) (by rfl) y0 (fun W hW => ?_) ?_
    · (clear hW; go_simp)
    try simp only [Act.put, List.setIfInBounds_toArray, List.set_cons_zero, List.set_cons_succ]
    refine wpAnyH_done (by kernel_rfl) ?_ _
    by_cases hr1 : r1 = 0
    · subst hr1
      have hev := HEV2.out
      rw [if_neg (by simp)] at hev
      obtain ⟨-, c6, c7, c8, cfz⟩ := (HCC.out w8 y0).cells
      have f6 := cfz 6
      have f7 := cfz 7
      have f8 := cfz 8
      have cl : g < w8.heap.size := Nat.lt_of_lt_of_le HGL.out y0.size
      obtain ⟨mf, hmf⟩ : ∃ mf, mf = max fr 1 := ⟨_, rfl⟩
      have hmx : max (fr : Int) 1 = (mf : Int) := by omega
      rw [← hmf] at hev
      have HEV3 := hid hev
      obtain ⟨D8, hD8, hl8⟩ := HLN.out.1
      have HS3 := hid (hl8.set3 mf (tt + 1) ((0) + (WB ++ b).length))
      have HD8 := hid hD8
      clear hD8 hl8
      obtain ⟨bl, hbl2⟩ : ∃ n, n = (WB ++ b).length := ⟨_, rfl⟩
      rw [← hbl2] at HEV3 HS3
      rw [Nat.zero_add] at HEV3 HS3
      have e1 : ((tt + 1 : Nat) : Int) = (tt : Int) + 1 := by omega
      rw [e1] at HS3
      have hbsl : n2 = bl := by rw [hbl2]; exact (HB4.out.below HX13.out).1
      have hbll : bl ≤ 2000000000 := by rw [hbl2]; exact HBL3.out
      have HSZB := hid (show (0) + bl ≤ 200000000000000 by have := HSZ.out; omega)
      have hws : IntKind.i64.wrap ((((0) : Nat) : Int) + (bl : Int)) = (((0) + bl : Nat) : Int) := by have := HSZB.out; rw [IntWalk.i64_in _ ⟨by omega, by omega⟩]; omega
      clear hev cfz hmf hbl2 y0 e1
      go_wp2
      go_ret
      rw [HEV3.out]
      exact ⟨rfl, ⟨D8, fun q hq => (HD8.out q hq).imp id fun h => ⟨h.1, by rw [HS3.out.2.2]; exact h.2⟩, HS3.out.1⟩, HLN.out.2.trans HS3.out.2.1 fun q hq => .inl (.inr hq)⟩
    have hb : (r1 != 0) = true := by simpa using hr1
    have hev := HEV2.out
    rw [if_pos hr1] at hev
    have HEV3 := hid hev
    clear hev hr1 y0
    go_wp2
    go_ret
    rw [HEV3.out]
    exact ⟨rfl, HLN.out.1, HLN.out.2⟩
  have htb : ((tt : Int) == 0) = false := by simp; omega
  have htc : (tt == 0) = false := by simpa using ht0
  obtain ⟨-, -, c7, -, -⟩ := (HCC.out w (Frm.refl _ _)).cells
  cases hge : decide (2048 ≤ sz) with
  | true =>
    go_enter Tryz.func66, Tryz.ntmps66
    go_wp2
    have HX3 := hid ((show Ext w w from Below.refl _ _).trans' (ext_drew w))
    have HX13 := hid (ext_drew w)
    have y0 : Frm D w w.drew := Frm.of_ext HX3.out _
    refine wp_region_held_drew (S := fun W' => Frm D w W') (by kernel_rfl) y0 (fun hH => ?_)
    clear hH
    generalize w.drew = w3 at *
    refine held_run (i := 0) (v := .pointer (some ⟨g, 0, none⟩)) rfl (by kernel_rfl) (by kernel_rfl) (by kernel_rfl) (fun _ _ _ h => h) (by rfl) y0 (fun W hW => ?_) ?_
    · (clear hW; go_simp)
    try simp only [Act.put, List.setIfInBounds_toArray, List.set_cons_zero, List.set_cons_succ]
    refine held_run (i := 1) (v := .pointer (some ⟨g, 0, none⟩)) rfl (by kernel_rfl) (by kernel_rfl) (by kernel_rfl) (fun _ _ _ h => h) (by rfl) y0 (fun W hW => ?_) ?_
    · (clear hW; go_simp)
    try simp only [Act.put, List.setIfInBounds_toArray, List.set_cons_zero, List.set_cons_succ]
    refine held_run (i := 2) (v := .pointer (some ⟨g, 7, none⟩)) rfl (by kernel_rfl) (by kernel_rfl) (by kernel_rfl) (fun _ _ _ h => h) (by rfl) y0 (fun W hW => ?_) ?_
    · (clear hW; go_simp)
    try simp only [Act.put, List.setIfInBounds_toArray, List.set_cons_zero, List.set_cons_succ]
    refine held_run (i := 3) (v := .int .i64 (tt : Int)) rfl (by kernel_rfl) (by kernel_rfl) (by kernel_rfl) (fun _ _ _ h => h) (by rfl) y0 (fun W hW => ?_) ?_
    · (obtain ⟨c5, c6, c7, c8, -⟩ := (HCC.out W hW).cells; clear hW; go_simp)
    try simp only [Act.put, List.setIfInBounds_toArray, List.set_cons_zero, List.set_cons_succ]
    refine held_run (i := 4) (v := .pointer (some ⟨g, 0, none⟩)) rfl (by kernel_rfl) (by kernel_rfl) (by kernel_rfl) (fun _ _ _ h => h) (by rfl) y0 (fun W hW => ?_) ?_
    · (clear hW; go_simp)
    try simp only [Act.put, List.setIfInBounds_toArray, List.set_cons_zero, List.set_cons_succ]
    refine held_run (i := 5) (v := .pointer (some ⟨g, 0, none⟩)) rfl (by kernel_rfl) (by kernel_rfl) (by kernel_rfl) (fun _ _ _ h => h) (by rfl) y0 (fun W hW => ?_) ?_
    · (clear hW; go_simp)
    try simp only [Act.put, List.setIfInBounds_toArray, List.set_cons_zero, List.set_cons_succ]
    refine held_run (i := 6) (v := .pointer (some ⟨g, 8, none⟩)) rfl (by kernel_rfl) (by kernel_rfl) (by kernel_rfl) (fun _ _ _ h => h) (by rfl) y0 (fun W hW => ?_) ?_
    · (clear hW; go_simp)
    try simp only [Act.put, List.setIfInBounds_toArray, List.set_cons_zero, List.set_cons_succ]
    refine held_run (i := 7) (v := .int .i64 (sz : Int)) rfl (by kernel_rfl) (by kernel_rfl) (by kernel_rfl) (fun _ _ _ h => h) (by rfl) y0 (fun W hW => ?_) ?_
    · (obtain ⟨c5, c6, c7, c8, -⟩ := (HCC.out W hW).cells; clear hW; go_simp)
    try simp only [Act.put, List.setIfInBounds_toArray, List.set_cons_zero, List.set_cons_succ]
    refine held_run (i := 8) (v := .int .i64 (tt : Int)) rfl (by kernel_rfl) (by kernel_rfl) (by kernel_rfl) (fun _ _ _ h => h) (by rfl) y0 (fun W hW => ?_) ?_
    · (clear hW; go_simp)
    try simp only [Act.put, List.setIfInBounds_toArray, List.set_cons_zero, List.set_cons_succ]
    refine held_run (i := 9) (v := .int .i64 (sz : Int)) rfl (by kernel_rfl) (by kernel_rfl) (by kernel_rfl) (fun _ _ _ h => h) (by rfl) y0 (fun W hW => ?_) ?_
    · (clear hW; go_simp)
    try simp only [Act.put, List.setIfInBounds_toArray, List.set_cons_zero, List.set_cons_succ]
    refine wpAnyH_done (by kernel_rfl) ?_ _
    clear y0
    have HBL3 := hid (show b.length ≤ 2000000000 by have := HBL.out; omega)
    have hgi : (2048 : Int) ≤ (sz : Int) := by have := of_decide_eq_true hge; omega
    have hw1 : IntKind.i64.wrap ((tt : Int) + 1) = ((tt + 1 : Nat) : Int) := by rw [IntWalk.i64_in _ ⟨by omega, by omega⟩]; omega
    have HEV := hid (show Lo.write ⟨⟨vv, fr, tt, sz⟩, d⟩ b = Lo.put ⟨⟨vv, fr, tt, sz⟩, d⟩ (tt + 1) (0) (b) from by unfold Lo.write; dsimp only; rw [if_neg ht0, if_pos (by simpa using hge)])
    have ht2l : (tt + 1) < 1000000000000 := by have := HTT.out; omega
    have HWR := hid (fun W' (hW : Ext w3 W') => Write_at (HD.out.below (HX3.out.trans' hW)) HOK.out (by have := HC.out; omega) (fileW (tt + 1)) (by rw [fileW_len ht2l]; decide) (((0) : Nat) : Int) ⟨by have := HSZ.out; omega, by have := HSZ.out; omega⟩ ((HB.out.below HX3.out).below hW))
    have HNA := hid (fun W' (hW : Ext w3 W') => nameW_any (HT.out.ext (HX3.out.trans' hW)) ht2l)
    have hev := HEV.out
    unfold Lo.put at hev
    dsimp only at hev
    obtain ⟨r, hr⟩ : ∃ r, r = d.write (fileW (tt + 1)) (((0) : Nat) : Int) (b) := ⟨_, rfl⟩
    rw [← hr] at HWR hev
    obtain ⟨f, hf⟩ : ∃ f, f = fileW (tt + 1) := ⟨_, rfl⟩
    rw [← hf] at HWR HNA
    have e0 : (((0 : Nat)) : Int) = 0 := rfl
    rw [e0] at HWR
    obtain ⟨r1, r2⟩ := r
    dsimp only at hev
    have HEV2 := hid hev
    clear hev hr hf HEV
    go_wp2
    have y0 : Frm D w w3.drew := Frm.of_ext (HX3.out.trans' (ext_drew w3)) _
    refine wp_region_held_drew (S := fun W' => Frm D w W') (by kernel_rfl) y0 (fun hH => ?_)
    clear hH
    refine held_run (i := 0) (v := .pointer (some ⟨g, 0, none⟩)) rfl (by kernel_rfl) (by kernel_rfl) (by kernel_rfl) (fun _ _ _ h => h) (by rfl) y0 (fun W hW => ?_) ?_
    · (clear hW; go_simp)
    try simp only [Act.put, List.setIfInBounds_toArray, List.set_cons_zero, List.set_cons_succ]
    refine held_run (i := 1) (v := .pointer (some ⟨g, 0, none⟩)) rfl (by kernel_rfl) (by kernel_rfl) (by kernel_rfl) (fun _ _ _ h => h) (by rfl) y0 (fun W hW => ?_) ?_
    · (clear hW; go_simp)
    try simp only [Act.put, List.setIfInBounds_toArray, List.set_cons_zero, List.set_cons_succ]
    refine held_run (i := 2) (v := .pointer (some ⟨g, 5, none⟩)) rfl (by kernel_rfl) (by kernel_rfl) (by kernel_rfl) (fun _ _ _ h => h) (by rfl) y0 (fun W hW => ?_) ?_
    · (clear hW; go_simp)
    try simp only [Act.put, List.setIfInBounds_toArray, List.set_cons_zero, List.set_cons_succ]
    refine held_run (i := 3) (v := .pointer (some ⟨dg, 0, none⟩)) rfl (by kernel_rfl) (by kernel_rfl) (by kernel_rfl) (fun _ _ _ h => h) (by rfl) y0 (fun W hW => ?_) ?_
    · (obtain ⟨c5, c6, c7, c8, -⟩ := (HCC.out W hW).cells; clear hW; go_simp)
    try simp only [Act.put, List.setIfInBounds_toArray, List.set_cons_zero, List.set_cons_succ]
    refine held_run (i := 4) (v := .int .i64 (((tt + 1) : Nat) : Int)) rfl (by kernel_rfl) (by kernel_rfl) (by kernel_rfl) (fun _ _ _ h => h) (by rfl) y0 (fun W hW => ?_) ?_
    · (clear hW; go_simp)
    try simp only [Act.put, List.setIfInBounds_toArray, List.set_cons_zero, List.set_cons_succ]
    refine held_run (i := 6) (v := .int .i64 0) rfl (by kernel_rfl) (by kernel_rfl) (by kernel_rfl) (fun _ _ _ h => h) (by rfl) y0 (fun W hW => ?_) ?_
    · (clear hW; go_simp)
    try simp only [Act.put, List.setIfInBounds_toArray, List.set_cons_zero, List.set_cons_succ]
    refine held_run (i := 7) (v := .slice ba bn bc) rfl (by kernel_rfl) (by kernel_rfl) (by kernel_rfl) (fun _ _ _ h => h) (by rfl) y0 (fun W hW => ?_) ?_
    · (clear hW; go_simp)
    try simp only [Act.put, List.setIfInBounds_toArray, List.set_cons_zero, List.set_cons_succ]
    refine wpAnyH_ready (rs := [5]) (by kernel_rfl) (by simp) ?_
    refine held_cons (i := 5) rfl (fun K hK => ?_)
    go_simp
    go_at_call 61
    refine Calls.mono (HNA.out _ (ext_drew w3)) ?_
    rintro e w7 ⟨rfl, hx1⟩
    have y1 : Frm D w w7 := Frm.of_ext (HX3.out.trans' ((ext_drew w3).trans' hx1)) _
    have HX7 := hid ((ext_drew w3).trans' hx1)
    clear hx1
    dsimp only
    refine hK.out _ _ y1 (fun hH => ?_)
    clear hK K y0 hH
    have y0 := y1
    clear y1
    try simp only [Act.put, List.setIfInBounds_toArray, List.set_cons_zero, List.set_cons_succ]
    refine wpAnyH_ready (rs := [8]) (by kernel_rfl) (by simp) ?_
    refine held_cons (i := 8) rfl (fun K hK => ?_)
    go_simp
    go_at_call 77
    refine Calls.mono (HWR.out _ HX7.out) ?_
    rintro e w8 hE
    have HX37 := hid (HX3.out.trans' HX7.out)
    have HLN := hid (LoX.disk (w := w) (s := ⟨vv, fr, tt, sz⟩) (d := r2) (HLG.out.below HX37.out) H3.out H4.out HGL.out HX37.out hE.2.1 hE.2.2)
    have y1 : Frm D w w8 := Frm.after_ext HX37.out hE.2.2
    obtain ⟨rfl, -, -⟩ := hE
    dsimp only at *
    refine hK.out _ _ y1 (fun hH => ?_)
    clear hK K y0 hH
    have y0 := y1
    clear y1
    try simp only [Act.put, List.setIfInBounds_toArray, List.set_cons_zero, List.set_cons_succ]
    refine held_run (i := 9) (v := .int .i64 r1) rfl (by kernel_rfl) (by kernel_rfl) (by kernel_rfl) (fun _ _ _ h => h) (by rfl) y0 (fun W hW => ?_) ?_
    · (clear hW; go_simp)
    try simp only [Act.put, List.setIfInBounds_toArray, List.set_cons_zero, List.set_cons_succ]
    refine wpAnyH_done (by kernel_rfl) ?_ _
    by_cases hr1 : r1 = 0
    · subst hr1
      have hev := HEV2.out
      rw [if_neg (by simp)] at hev
      obtain ⟨-, c6, c7, c8, cfz⟩ := (HCC.out w8 y0).cells
      have f6 := cfz 6
      have f7 := cfz 7
      have f8 := cfz 8
      have cl : g < w8.heap.size := Nat.lt_of_lt_of_le HGL.out y0.size
      obtain ⟨mf, hmf⟩ : ∃ mf, mf = max fr 1 := ⟨_, rfl⟩
      have hmx : max (fr : Int) 1 = (mf : Int) := by omega
      rw [← hmf] at hev
      have HEV3 := hid hev
      obtain ⟨D8, hD8, hl8⟩ := HLN.out.1
      have HS3 := hid (hl8.set3 mf (tt + 1) ((0) + (b).length))
      have HD8 := hid hD8
      clear hD8 hl8
      obtain ⟨bl, hbl2⟩ : ∃ n, n = (b).length := ⟨_, rfl⟩
      rw [← hbl2] at HEV3 HS3
      rw [Nat.zero_add] at HEV3 HS3
      have e1 : ((tt + 1 : Nat) : Int) = (tt : Int) + 1 := by omega
      rw [e1] at HS3
      have hbsl : bn = bl := by rw [hbl2]; exact (HB.out.below HX3.out).1
      have hbll : bl ≤ 2000000000 := by rw [hbl2]; exact HBL3.out
      have HSZB := hid (show (0) + bl ≤ 200000000000000 by have := HSZ.out; omega)
      have hws : IntKind.i64.wrap ((((0) : Nat) : Int) + (bl : Int)) = (((0) + bl : Nat) : Int) := by have := HSZB.out; rw [IntWalk.i64_in _ ⟨by omega, by omega⟩]; omega
      clear hev cfz hmf hbl2 y0 e1
      go_wp2
      go_ret
      rw [HEV3.out]
      exact ⟨rfl, ⟨D8, fun q hq => (HD8.out q hq).imp id fun h => ⟨h.1, by rw [HS3.out.2.2]; exact h.2⟩, HS3.out.1⟩, HLN.out.2.trans HS3.out.2.1 fun q hq => .inl (.inr hq)⟩
    have hb : (r1 != 0) = true := by simpa using hr1
    have hev := HEV2.out
    rw [if_pos hr1] at hev
    have HEV3 := hid hev
    clear hev hr1 y0
    go_wp2
    go_ret
    rw [HEV3.out]
    exact ⟨rfl, HLN.out.1, HLN.out.2⟩
  | false =>
    go_enter Tryz.func66, Tryz.ntmps66
    go_wp2
    have HX3 := hid ((show Ext w w from Below.refl _ _).trans' (ext_drew w))
    have HX13 := hid (ext_drew w)
    have y0 : Frm D w w.drew := Frm.of_ext HX3.out _
    refine wp_region_held_drew (S := fun W' => Frm D w W') (by kernel_rfl) y0 (fun hH => ?_)
    clear hH
    generalize w.drew = w3 at *
    refine held_run (i := 0) (v := .pointer (some ⟨g, 0, none⟩)) rfl (by kernel_rfl) (by kernel_rfl) (by kernel_rfl) (fun _ _ _ h => h) (by rfl) y0 (fun W hW => ?_) ?_
    · (clear hW; go_simp)
    try simp only [Act.put, List.setIfInBounds_toArray, List.set_cons_zero, List.set_cons_succ]
    refine held_run (i := 1) (v := .pointer (some ⟨g, 0, none⟩)) rfl (by kernel_rfl) (by kernel_rfl) (by kernel_rfl) (fun _ _ _ h => h) (by rfl) y0 (fun W hW => ?_) ?_
    · (clear hW; go_simp)
    try simp only [Act.put, List.setIfInBounds_toArray, List.set_cons_zero, List.set_cons_succ]
    refine held_run (i := 2) (v := .pointer (some ⟨g, 7, none⟩)) rfl (by kernel_rfl) (by kernel_rfl) (by kernel_rfl) (fun _ _ _ h => h) (by rfl) y0 (fun W hW => ?_) ?_
    · (clear hW; go_simp)
    try simp only [Act.put, List.setIfInBounds_toArray, List.set_cons_zero, List.set_cons_succ]
    refine held_run (i := 3) (v := .int .i64 (tt : Int)) rfl (by kernel_rfl) (by kernel_rfl) (by kernel_rfl) (fun _ _ _ h => h) (by rfl) y0 (fun W hW => ?_) ?_
    · (obtain ⟨c5, c6, c7, c8, -⟩ := (HCC.out W hW).cells; clear hW; go_simp)
    try simp only [Act.put, List.setIfInBounds_toArray, List.set_cons_zero, List.set_cons_succ]
    refine held_run (i := 4) (v := .pointer (some ⟨g, 0, none⟩)) rfl (by kernel_rfl) (by kernel_rfl) (by kernel_rfl) (fun _ _ _ h => h) (by rfl) y0 (fun W hW => ?_) ?_
    · (clear hW; go_simp)
    try simp only [Act.put, List.setIfInBounds_toArray, List.set_cons_zero, List.set_cons_succ]
    refine held_run (i := 5) (v := .pointer (some ⟨g, 0, none⟩)) rfl (by kernel_rfl) (by kernel_rfl) (by kernel_rfl) (fun _ _ _ h => h) (by rfl) y0 (fun W hW => ?_) ?_
    · (clear hW; go_simp)
    try simp only [Act.put, List.setIfInBounds_toArray, List.set_cons_zero, List.set_cons_succ]
    refine held_run (i := 6) (v := .pointer (some ⟨g, 8, none⟩)) rfl (by kernel_rfl) (by kernel_rfl) (by kernel_rfl) (fun _ _ _ h => h) (by rfl) y0 (fun W hW => ?_) ?_
    · (clear hW; go_simp)
    try simp only [Act.put, List.setIfInBounds_toArray, List.set_cons_zero, List.set_cons_succ]
    refine held_run (i := 7) (v := .int .i64 (sz : Int)) rfl (by kernel_rfl) (by kernel_rfl) (by kernel_rfl) (fun _ _ _ h => h) (by rfl) y0 (fun W hW => ?_) ?_
    · (obtain ⟨c5, c6, c7, c8, -⟩ := (HCC.out W hW).cells; clear hW; go_simp)
    try simp only [Act.put, List.setIfInBounds_toArray, List.set_cons_zero, List.set_cons_succ]
    refine held_run (i := 8) (v := .int .i64 (tt : Int)) rfl (by kernel_rfl) (by kernel_rfl) (by kernel_rfl) (fun _ _ _ h => h) (by rfl) y0 (fun W hW => ?_) ?_
    · (clear hW; go_simp)
    try simp only [Act.put, List.setIfInBounds_toArray, List.set_cons_zero, List.set_cons_succ]
    refine held_run (i := 9) (v := .int .i64 (sz : Int)) rfl (by kernel_rfl) (by kernel_rfl) (by kernel_rfl) (fun _ _ _ h => h) (by rfl) y0 (fun W hW => ?_) ?_
    · (clear hW; go_simp)
    try simp only [Act.put, List.setIfInBounds_toArray, List.set_cons_zero, List.set_cons_succ]
    refine wpAnyH_done (by kernel_rfl) ?_ _
    clear y0
    have HBL3 := hid (show b.length ≤ 2000000000 by have := HBL.out; omega)
    have hgi : ¬ (2048 : Int) ≤ (sz : Int) := by have := of_decide_eq_false hge; omega
    have HEV := hid (show Lo.write ⟨⟨vv, fr, tt, sz⟩, d⟩ b = Lo.put ⟨⟨vv, fr, tt, sz⟩, d⟩ (tt) (sz) (b) from by unfold Lo.write; dsimp only; rw [if_neg ht0, if_neg (by simpa using hge)])
    have ht2l : (tt) < 1000000000000 := by have := HTT.out; omega
    have HWR := hid (fun W' (hW : Ext w3 W') => Write_at (HD.out.below (HX3.out.trans' hW)) HOK.out (by have := HC.out; omega) (fileW (tt)) (by rw [fileW_len ht2l]; decide) (((sz) : Nat) : Int) ⟨by have := HSZ.out; omega, by have := HSZ.out; omega⟩ ((HB.out.below HX3.out).below hW))
    have HNA := hid (fun W' (hW : Ext w3 W') => nameW_any (HT.out.ext (HX3.out.trans' hW)) ht2l)
    have hev := HEV.out
    unfold Lo.put at hev
    dsimp only at hev
    obtain ⟨r, hr⟩ : ∃ r, r = d.write (fileW (tt)) (((sz) : Nat) : Int) (b) := ⟨_, rfl⟩
    rw [← hr] at HWR hev
    obtain ⟨f, hf⟩ : ∃ f, f = fileW (tt) := ⟨_, rfl⟩
    rw [← hf] at HWR HNA
    obtain ⟨r1, r2⟩ := r
    dsimp only at hev
    have HEV2 := hid hev
    clear hev hr hf HEV
    go_wp2
    have y0 : Frm D w w3.drew := Frm.of_ext (HX3.out.trans' (ext_drew w3)) _
    refine wp_region_held_drew (S := fun W' => Frm D w W') (by kernel_rfl) y0 (fun hH => ?_)
    clear hH
    refine held_run (i := 0) (v := .pointer (some ⟨g, 0, none⟩)) rfl (by kernel_rfl) (by kernel_rfl) (by kernel_rfl) (fun _ _ _ h => h) (by rfl) y0 (fun W hW => ?_) ?_
    · (clear hW; go_simp)
    try simp only [Act.put, List.setIfInBounds_toArray, List.set_cons_zero, List.set_cons_succ]
    refine held_run (i := 1) (v := .pointer (some ⟨g, 0, none⟩)) rfl (by kernel_rfl) (by kernel_rfl) (by kernel_rfl) (fun _ _ _ h => h) (by rfl) y0 (fun W hW => ?_) ?_
    · (clear hW; go_simp)
    try simp only [Act.put, List.setIfInBounds_toArray, List.set_cons_zero, List.set_cons_succ]
    refine held_run (i := 2) (v := .pointer (some ⟨g, 5, none⟩)) rfl (by kernel_rfl) (by kernel_rfl) (by kernel_rfl) (fun _ _ _ h => h) (by rfl) y0 (fun W hW => ?_) ?_
    · (clear hW; go_simp)
    try simp only [Act.put, List.setIfInBounds_toArray, List.set_cons_zero, List.set_cons_succ]
    refine held_run (i := 3) (v := .pointer (some ⟨dg, 0, none⟩)) rfl (by kernel_rfl) (by kernel_rfl) (by kernel_rfl) (fun _ _ _ h => h) (by rfl) y0 (fun W hW => ?_) ?_
    · (obtain ⟨c5, c6, c7, c8, -⟩ := (HCC.out W hW).cells; clear hW; go_simp)
    try simp only [Act.put, List.setIfInBounds_toArray, List.set_cons_zero, List.set_cons_succ]
    refine held_run (i := 4) (v := .int .i64 (((tt) : Nat) : Int)) rfl (by kernel_rfl) (by kernel_rfl) (by kernel_rfl) (fun _ _ _ h => h) (by rfl) y0 (fun W hW => ?_) ?_
    · (clear hW; go_simp)
    try simp only [Act.put, List.setIfInBounds_toArray, List.set_cons_zero, List.set_cons_succ]
    refine held_run (i := 6) (v := .int .i64 (((sz) : Nat) : Int)) rfl (by kernel_rfl) (by kernel_rfl) (by kernel_rfl) (fun _ _ _ h => h) (by rfl) y0 (fun W hW => ?_) ?_
    · (clear hW; go_simp)
    try simp only [Act.put, List.setIfInBounds_toArray, List.set_cons_zero, List.set_cons_succ]
    refine held_run (i := 7) (v := .slice ba bn bc) rfl (by kernel_rfl) (by kernel_rfl) (by kernel_rfl) (fun _ _ _ h => h) (by rfl) y0 (fun W hW => ?_) ?_
    · (clear hW; go_simp)
    try simp only [Act.put, List.setIfInBounds_toArray, List.set_cons_zero, List.set_cons_succ]
    refine wpAnyH_ready (rs := [5]) (by kernel_rfl) (by simp) ?_
    refine held_cons (i := 5) rfl (fun K hK => ?_)
    go_simp
    go_at_call 61
    refine Calls.mono (HNA.out _ (ext_drew w3)) ?_
    rintro e w7 ⟨rfl, hx1⟩
    have y1 : Frm D w w7 := Frm.of_ext (HX3.out.trans' ((ext_drew w3).trans' hx1)) _
    have HX7 := hid ((ext_drew w3).trans' hx1)
    clear hx1
    dsimp only
    refine hK.out _ _ y1 (fun hH => ?_)
    clear hK K y0 hH
    have y0 := y1
    clear y1
    try simp only [Act.put, List.setIfInBounds_toArray, List.set_cons_zero, List.set_cons_succ]
    refine wpAnyH_ready (rs := [8]) (by kernel_rfl) (by simp) ?_
    refine held_cons (i := 8) rfl (fun K hK => ?_)
    go_simp
    go_at_call 77
    refine Calls.mono (HWR.out _ HX7.out) ?_
    rintro e w8 hE
    have HX37 := hid (HX3.out.trans' HX7.out)
    have HLN := hid (LoX.disk (w := w) (s := ⟨vv, fr, tt, sz⟩) (d := r2) (HLG.out.below HX37.out) H3.out H4.out HGL.out HX37.out hE.2.1 hE.2.2)
    have y1 : Frm D w w8 := Frm.after_ext HX37.out hE.2.2
    obtain ⟨rfl, -, -⟩ := hE
    dsimp only at *
    refine hK.out _ _ y1 (fun hH => ?_)
    clear hK K y0 hH
    have y0 := y1
    clear y1
    try simp only [Act.put, List.setIfInBounds_toArray, List.set_cons_zero, List.set_cons_succ]
    refine held_run (i := 9) (v := .int .i64 r1) rfl (by kernel_rfl) (by kernel_rfl) (by kernel_rfl) (fun _ _ _ h => h) (by rfl) y0 (fun W hW => ?_) ?_
    · (clear hW; go_simp)
    try simp only [Act.put, List.setIfInBounds_toArray, List.set_cons_zero, List.set_cons_succ]
    refine wpAnyH_done (by kernel_rfl) ?_ _
    by_cases hr1 : r1 = 0
    · subst hr1
      have hev := HEV2.out
      rw [if_neg (by simp)] at hev
      obtain ⟨-, c6, c7, c8, cfz⟩ := (HCC.out w8 y0).cells
      have f6 := cfz 6
      have f7 := cfz 7
      have f8 := cfz 8
      have cl : g < w8.heap.size := Nat.lt_of_lt_of_le HGL.out y0.size
      obtain ⟨mf, hmf⟩ : ∃ mf, mf = max fr 1 := ⟨_, rfl⟩
      have hmx : max (fr : Int) 1 = (mf : Int) := by omega
      rw [← hmf] at hev
      have HEV3 := hid hev
      obtain ⟨D8, hD8, hl8⟩ := HLN.out.1
      have HS3 := hid (hl8.set3 mf (tt) ((sz) + (b).length))
      have HD8 := hid hD8
      clear hD8 hl8
      obtain ⟨bl, hbl2⟩ : ∃ n, n = (b).length := ⟨_, rfl⟩
      rw [← hbl2] at HEV3 HS3
      have e1 : ((sz + bl : Nat) : Int) = (sz : Int) + (bl : Int) := by omega
      rw [e1] at HS3
      have hbsl : bn = bl := by rw [hbl2]; exact (HB.out.below HX3.out).1
      have hbll : bl ≤ 2000000000 := by rw [hbl2]; exact HBL3.out
      have HSZB := hid (show (sz) + bl ≤ 200000000000000 by have := HSZ.out; omega)
      have hws : IntKind.i64.wrap ((((sz) : Nat) : Int) + (bl : Int)) = (((sz) + bl : Nat) : Int) := by have := HSZB.out; rw [IntWalk.i64_in _ ⟨by omega, by omega⟩]; omega
      clear hev cfz hmf hbl2 y0 e1
      go_wp2
      go_ret
      rw [HEV3.out]
      exact ⟨rfl, ⟨D8, fun q hq => (HD8.out q hq).imp id fun h => ⟨h.1, by rw [HS3.out.2.2]; exact h.2⟩, HS3.out.1⟩, HLN.out.2.trans HS3.out.2.1 fun q hq => .inl (.inr hq)⟩
    have hb : (r1 != 0) = true := by simpa using hr1
    have hev := HEV2.out
    rw [if_pos hr1] at hev
    have HEV3 := hid hev
    clear hev hr1 y0
    go_wp2
    go_ret
    rw [HEV3.out]
    exact ⟨rfl, HLN.out.1, HLN.out.2⟩
theorem write_any {A F : Nat → Prop} {w : World} {g dg : Nat} {v : Lo} (h : LoAt A w g dg v) (hok : v.d.Ok) (hc : v.d.acts.length ≤ 1000000000) (htt : v.s.tt < 100000000000) (hsz : v.s.sz ≤ 100000000000000) {ba : Option Addr} {bn bc : Nat} {b : By} (hb : ByF F w ba bn bc b) (hbl : b.length ≤ 1000000000) (hT : TabP w) (hpow : ¬ A powG) :
    Calls Tryz.prog 66 #[.pointer (some ⟨g, 0, none⟩), .slice ba bn bc] w (LoPost A g dg (v.write b) w) := by
  obtain ⟨D, G, h1, h2, h3, h4, h5, h6⟩ := h
  exact (write_x (D := D) (G := G) ⟨h1, h2, fun q hq => (h3 q hq).2, fun q hq => ⟨(h4 q hq).2, h6 q (h4 q hq).1⟩⟩ hok hc htt hsz hb hbl hT).mono fun e w' hp => LoX.done (fun q hq => (h3 q hq).1) (fun q hq => (h4 q hq).1) h5 h6 hp
end Go.Proofs.YtikjckdoldiddaaGreatDoor

/- The walks of a log's small calls. -/
namespace Go.Proofs.YtikjckdoldiddaaGreatDoor
open Go.RowKit Go.Maps
set_option linter.unusedVariables false
set_option linter.unusedSimpArgs false
attribute [local go_sem] bmax2 bmin2 bmax_two bmin_two

theorem lmade_any {w : World} {g dg : Nat} (h : w.cell? ⟨g, 5, none⟩ = some (.pointer (some ⟨dg, 0, none⟩))) :
    Calls Tryz.prog 63 #[.pointer (some ⟨g, 0, none⟩)] w (fun e w' => e = .returned (.bool true) ∧ w' = w) := by
  have hgl := World.block_lt_of_cell? w _ h
  go_enter Tryz.func63, Tryz.ntmps63
  go_wp2
  go_ret
  exact ⟨rfl, rfl⟩
def Lo.sync (v : Lo) : Int × Lo := (v.d.sync.1, ⟨v.s, v.d.sync.2⟩)
set_option maxHeartbeats 1000000 in
theorem LSync_any {A : Nat → Prop} {w : World} {g dg : Nat} {v : Lo} (h : LoAt A w g dg v) (hok : v.d.Ok) (hc : v.d.acts.length ≤ 1000000000) :
    Calls Tryz.prog 30 #[.pointer (some ⟨g, 0, none⟩)] w (LoPost A g dg v.sync w) := by
  obtain ⟨D, G, h1, h2, h3, h4, h5, h6⟩ := h
  have c5 := h2.cells.1
  have hgl := h2.lt
  have HM := hid (lmade_any c5)
  obtain ⟨⟨vv, fr, tt, sz⟩, d⟩ := v
  dsimp only at *
  have HS := hid (Sync_at (s := d) h1 hok (by omega))
  have HH := hid (And.intro h2 (And.intro h3 (And.intro h4 (And.intro h5 h6))))
  unfold Lo.sync
  dsimp only
  obtain ⟨r, hr⟩ : ∃ r, r = d.sync := ⟨_, rfl⟩
  rw [← hr] at HS ⊢
  obtain ⟨r1, r2⟩ := r
  clear h1 h2 h3 h4 h5 h6 hok hc hr
  go_enter Tryz.func30, Tryz.ntmps30
  go_wp2_with fail
  refine Calls.mono HM.out ?_
  rintro e w1 ⟨rfl, rfl⟩
  go_wp2_with fail
  refine Calls.mono HS.out ?_
  rintro e w2 hE
  have HL := hid (LoAt.disk (w := w1) (s := ⟨vv, fr, tt, sz⟩) (d := r2) HH.out.1 HH.out.2.1 HH.out.2.2.1 HH.out.2.2.2.1 HH.out.2.2.2.2 (Frm.refl _ _) hE.2.1 hE.2.2)
  obtain ⟨rfl, -, -⟩ := hE
  go_wp2
  go_ret
  exact ⟨rfl, HL.out.1, HL.out.2⟩
end Go.Proofs.YtikjckdoldiddaaGreatDoor
