/- The walk of a view's take. Printed by gen_wt7.py. -/
import Derived.Test.YtikjckdoldiddaaGreatDoorC10
import Derived.Test.YtikjckdoldiddaaGreatDoorC07
namespace Go.Proofs.YtikjckdoldiddaaGreatDoor
open Go.RowKit Go.Maps
set_option linter.unusedVariables false
set_option linter.unusedSimpArgs false
attribute [local go_sem] bmax2 bmin2 bmax_two bmin_two

/-- A view is stored. -/
def five (w : World) (g : Nat) (v : Wv) (la : Option Addr) (ln lc : Nat) : World :=
  ((((w.setCell ⟨g, 0, none⟩ (.int .i64 v.ht)).setCell ⟨g, 1, none⟩ (.int .i64 v.hv)).setCell ⟨g, 2, none⟩ (.int .i64 v.i)).setCell ⟨g, 3, none⟩ (.int .i64 v.t)).setCell ⟨g, 4, none⟩ (.slice la ln lc)
def TakePost (F : Nat → Prop) (g : Nat) (r : Option Wv) (w : World) (e : Ending) (w' : World) : Prop :=
  (r = none ∧ e = .returned (.bool false) ∧ Ext w w') ∨
  (∃ v', r = some v' ∧ e = .returned (.bool true) ∧ ∃ w2 la ln lc, Ext w w2 ∧ EsF (fun q => F q ∨ (w.heap.size ≤ q ∧ q < w2.heap.size)) w2 la ln lc v'.l ∧ w' = five w2 g v' la ln lc)
theorem Sc.text_len (s : Sc) (m : Nat) : (s.text m).1.length ≤ m := by
  unfold Sc.text
  split
  · simp
  split
  · simp
  split
  · simp
  rw [List.length_take]; omega
theorem ScAt.end0 {D : Nat → Prop} {w : World} {g : Nat} {s : Sc} (h : ScAt D w g s) : s.at_ ≤ s.b.length := h.at_le.1
theorem vcells5 {W : World} {b : Nat} {x0 x1 x2 x3 x4 : Value} {t : TypeId} (h : W.heap[b]? = some (.cells #[x0, x1, x2, x3, x4] t (0, 0))) :
    (W.cell? ⟨b, 0, none⟩ = some x0 ∧ W.cell? ⟨b, 1, none⟩ = some x1 ∧ W.cell? ⟨b, 2, none⟩ = some x2 ∧ W.cell? ⟨b, 3, none⟩ = some x3 ∧ W.cell? ⟨b, 4, none⟩ = some x4) ∧ (∀ j, W.frozen? ⟨b, j, none⟩ = false) ∧ b < W.heap.size :=
  ⟨⟨by simp [World.cell?, h], by simp [World.cell?, h], by simp [World.cell?, h], by simp [World.cell?, h], by simp [World.cell?, h]⟩, fun j => by simp [World.frozen?, h], (Array.getElem?_eq_some_iff.1 h).1⟩
/-- Cells of a block that may be written. -/
def Soft (w : World) (g : Nat) : Prop := g < w.heap.size ∧ ∀ j, j < 5 → w.frozen? ⟨g, j, none⟩ = false
theorem Soft.ext {w w' : World} {g : Nat} (h : Soft w g) (hx : Ext w w') : Soft w' g := ⟨Nat.lt_of_lt_of_le h.1 hx.size, fun j hj => (World.frozen?_of_block (w := w) (a := ⟨g, j, none⟩) (hx.block g h.1)).trans (h.2 j hj)⟩
set_option maxRecDepth 100000 in
set_option maxHeartbeats 8000000 in
theorem take_any {F G : Nat → Prop} {w : World} {g : Nat} {v : Wv} {la : Option Addr} {ln lc : Nat} (h : VwAt F w g v la ln lc) (hs : Soft w g) {ba : Option Addr} {bn bc : Nat} {b : By} (hb : ByF G w ba bn bc b) (hbn : bn ≤ 1000000000) :
    Calls Tryz.prog 137 #[.pointer (some ⟨g, 0, none⟩), .slice ba bn bc] w (TakePost F g (v.take b) w) := by
  have HV := hid h
  have HS := hid hs
  have HOV := hid (Over_any hb (by omega))
  have hln := h.es.1
  have HLN := hid (show ln = v.l.length ∧ ln ≤ 100000000 from ⟨hln, by have := h.many; omega⟩)
  have hgl := hs.1
  have HBIG := hid h.big
  have HI64 := hid h.i64
  obtain ⟨rv, hrv⟩ : ∃ rv, rv = v.take b := ⟨_, rfl⟩
  rw [← hrv]
  have HRV := hid hrv
  clear h hs hb hln hrv
  go_enter Tryz.func137, Tryz.ntmps137
  go_wp2_with fail
  refine Calls.mono HOV.out ?_
  rintro e w1 ⟨gs, rfl, hgs, hsc, hx1⟩
  obtain ⟨D, hD⟩ : ∃ D : Nat → Prop, D = fun q => w.heap.size ≤ q ∧ q < w1.heap.size := ⟨_, rfl⟩
  rw [← hD] at hsc
  have HD := hid hD
  have HX1 := hid hx1
  have HSC := hid hsc
  obtain ⟨-, -, -, -, -, -, -, -, -⟩ := id (HV.out.below hx1)
  have HV1 := hid (HV.out.below hx1)
  have q0 := HV1.out.c0
  have q1 := HV1.out.c1
  have q2 := HV1.out.c2
  have q3 := HV1.out.c3
  have q4 := HV1.out.c4
  clear hD hsc hx1 HOV hgs
  have hx2 := ext_alloc w1 (.cells #[.int .i64 v.ht, .int .i64 v.hv, .int .i64 v.i, .int .i64 v.t, .slice la ln lc] 62)
  have hn2 := heap_alloc_new w1 (.cells #[.int .i64 v.ht, .int .i64 v.hv, .int .i64 v.i, .int .i64 v.t, .slice la ln lc] 62)
  have hz2 : (w1.alloc (.cells #[.int .i64 v.ht, .int .i64 v.hv, .int .i64 v.i, .int .i64 v.t, .slice la ln lc] 62)).heap.size = w1.heap.size + 1 := World.size_alloc ..
  have HX2 := hid hx2
  have HN2 := hid hn2
  have HZ2 := hid hz2
  clear hx2 hn2 hz2
  go_wp2_with fail
  generalize w1.alloc (.cells #[.int .i64 v.ht, .int .i64 v.hv, .int .i64 v.i, .int .i64 v.t, .slice la ln lc] 62) = w2 at *
  obtain ⟨p, hp⟩ : ∃ p, p = w1.heap.size := ⟨_, rfl⟩
  rw [← hp] at HN2 HZ2 ⊢
  have HDP := hid (show ¬ D p ∧ (∀ q, D q → w.heap.size ≤ q) ∧ w.heap.size ≤ p ∧ g ≠ p from ⟨by rw [HD.out]; rintro ⟨-, h⟩; omega, fun q hq => by rw [HD.out] at hq; exact hq.1, by have := HX1.out.size; omega, by have := HX1.out.size; omega⟩)
  obtain ⟨s0, hs0⟩ : ∃ s0 : Sc, s0 = ⟨b, 0, 0⟩ := ⟨_, rfl⟩
  rw [← hs0] at HSC
  obtain ⟨⟨k, s1⟩, hr1⟩ : ∃ r, r = s0.num := ⟨_, rfl⟩
  obtain ⟨⟨n1, s2⟩, hr2⟩ : ∃ r, r = s1.num := ⟨_, rfl⟩
  obtain ⟨⟨n2, s3⟩, hr3⟩ : ∃ r, r = s2.num := ⟨_, rfl⟩
  have hN0 := fun W (h : ScAt D W gs s0) => SNumber_any h
  have hN1 := fun W (h : ScAt D W gs s1) => SNumber_any h
  have hN2 := fun W (h : ScAt D W gs s2) => SNumber_any h
  rw [← hr1] at hN0
  rw [← hr2] at hN1
  rw [← hr3] at hN2
  dsimp only at hN0 hN1 hN2
  have hrv : rv = (if k = 1 then (if goodHS n1 n2 = true ∧ s3.end_.1 = 0 then some { v with ht := n1, hv := n2 } else none)
      else if k = 2 then (if v.good ⟨n1, n2, (s3.text 4096).1⟩ = true ∧ (s3.text 4096).2.end_.1 = 0 then some { v with l := v.l ++ [⟨n1, n2, (s3.text 4096).1⟩] } else none)
      else if k = 3 then (if (v.i < (n1 : Int) ∧ (n1 : Int) ≤ v.last) ∧ s2.end_.1 = 0 then some { v with l := v.l.take ((n1 : Int) - v.i - 1).toNat } else none)
      else none) := by
    rw [HRV.out]
    unfold Wv.take
    dsimp only
    rw [← hs0, ← hr1]
    dsimp only
    rw [← hr2]
    dsimp only
    rw [← hr3]
  have HN0 := hid hN0
  have HN1 := hid hN1
  have HN2' := hid hN2
  have HR1 := hid hr1
  have HR2 := hid hr2
  have HR3 := hid hr3
  have HRW := hid hrv
  have hE2 := hid (fun W (h : ScAt D W gs s2) => End_any h)
  have hE3 := hid (fun W (h : ScAt D W gs s3) => End_any h)
  have HDL := hid (show ∀ q, D q → q < p from fun q hq => by rw [HD.out] at hq; rw [hp]; exact hq.2)
  clear q0 q1 q2 q3 q4 hN0 hN1 hN2 hr1 hr2 hr3 hrv HRV hp
  refine Calls.mono (HN0.out w2 (HSC.out.ext HX2.out)) ?_
  rintro e w3 ⟨rfl, hs1, hf3⟩
  have HS1 := hid hs1
  have HX3 := hid (ext_frm (HX1.out.trans' HX2.out) hf3 HDP.out.2.1)
  have HP3 := hid ((hf3.block p (by have := HZ2.out; omega) HDP.out.1).trans HN2.out)
  clear hs1 hf3 HN0 HN2 HZ2 HSC
  by_cases hk1 : k = 1
  · subst hk1
    have hrw := HRW.out
    rw [if_pos rfl] at hrw
    have HRW1 := hid hrw
    clear hrw HRW
    go_wp2_with fail
    refine Calls.mono (HN1.out w3 HS1.out) ?_
    rintro e w4 ⟨rfl, hs2, hf4⟩
    have HS2 := hid hs2
    have HP4 := hid ((hf4.block p (Array.getElem?_eq_some_iff.1 HP3.out).1 HDP.out.1).trans HP3.out)
    have HX4 := hid (ext_frm HX3.out hf4 HDP.out.2.1)
    clear hs2 hf4
    go_wp2_with fail
    refine Calls.mono (HN2'.out w4 HS2.out) ?_
    rintro e w5 ⟨rfl, hs3, hf5⟩
    have HS3 := hid hs3
    have HP5 := hid ((hf5.block p (Array.getElem?_eq_some_iff.1 HP4.out).1 HDP.out.1).trans HP4.out)
    have HX5 := hid (ext_frm HX4.out hf5 HDP.out.2.1)
    clear hs3 hf5
    obtain ⟨⟨c0, c1, c2, c3, c4⟩, cfz, cl⟩ := vcells5 HP5.out
    have f0 := cfz 0
    have f1 := cfz 1
    have hS := ((SetG.start HP5.out).step 0 (.int .i64 (n1 : Int))).step 1 (.int .i64 (n2 : Int))
    have HSg := hid hS
    clear cfz hS
    go_wp2_with fail
    generalize (w5.setCell ⟨p, 0, none⟩ (.int .i64 (n1 : Int))).setCell ⟨p, 1, none⟩ (.int .i64 (n2 : Int)) = w6 at *
    have hp6 : w6.heap[p]? = some (.cells #[.int .i64 (n1 : Int), .int .i64 (n2 : Int), .int .i64 v.i, .int .i64 v.t, .slice la ln lc] 62 (0, 0)) := by have h := HSg.out.obj; simpa using h
    have HP6 := hid hp6
    have HX6 := hid (ext_frm HX5.out HSg.out.frm (fun q hq => by rw [show q = p from hq]; exact HDP.out.2.2.1))
    have HS6 := hid (HS3.out.keep (w' := w6) fun q hq hl => HSg.out.frm.block q hl (by show ¬ q = p; intro e; subst e; exact HDP.out.1 hq))
    clear c0 c1 c2 c3 c4 f0 f1 cl hp6
    refine Calls.mono (goodH_any w6 n1 n2) ?_
    rintro e w7 ⟨rfl, hx7⟩
    have HX7 := hid (HX6.out.trans' hx7)
    have HS7 := hid (HS6.out.ext hx7)
    have HP7 := hid ((hx7.block p (Array.getElem?_eq_some_iff.1 HP6.out).1).trans HP6.out)
    clear hx7
    cases hg : goodHS n1 n2 with
    | false =>
      have hrn := HRW1.out
      rw [if_neg (by rw [hg]; simp)] at hrn
      have HRN := hid hrn
      clear hrn hg
      go_wp2
      go_ret
      exact .inl ⟨HRN.out, rfl, HX7.out⟩
    | true =>
      have hrn := HRW1.out
      rw [hg] at hrn
      clear hg
      have HEN := hid (hE3.out w7 HS7.out)
      obtain ⟨z, hz⟩ : ∃ z, z = s3.end_.1 := ⟨_, rfl⟩
      rw [← hz] at HEN hrn
      clear hz
      by_cases hz0 : z = 0
      · subst hz0
        rw [if_pos ⟨rfl, rfl⟩] at hrn
        have HRN := hid hrn
        clear hrn
        go_wp2_with fail
        refine Calls.mono HEN.out ?_
        rintro e w8 ⟨rfl, hf8⟩
        have HX8 := hid (ext_frm HX7.out hf8 HDP.out.2.1)
        have hp8 := (hf8.block p (Array.getElem?_eq_some_iff.1 HP7.out).1 HDP.out.1).trans HP7.out
        obtain ⟨⟨c0, c1, c2, c3, c4⟩, -, cl⟩ := vcells5 hp8
        have hsg := HS.out.ext HX8.out
        have g0 := hsg.2 0 (by decide)
        have g1 := hsg.2 1 (by decide)
        have g2 := hsg.2 2 (by decide)
        have g3 := hsg.2 3 (by decide)
        have g4 := hsg.2 4 (by decide)
        have hgl8 := hsg.1
        have hv8 := HV.out.below HX8.out
        have b0 := hv8.c0
        have b1 := hv8.c1
        have b2 := hv8.c2
        have b3 := hv8.c3
        have b4 := hv8.c4
        have HF8 := hid hf8
        clear hp8 hsg hf8 hv8
        go_wp2
        go_ret
        exact .inr ⟨_, HRN.out, rfl, w8, la, ln, lc, HX8.out, (HV.out.es.below HX8.out).more fun q hq => .inl hq, rfl⟩
      rw [if_neg (fun h => hz0 h.2)] at hrn
      have HRN := hid hrn
      have hzb : (z != 0) = true := by simpa using hz0
      clear hrn hz0
      go_wp2_with fail
      refine Calls.mono HEN.out ?_
      rintro e w8 ⟨rfl, hf8⟩
      have HF8 := hid hf8
      clear hf8
      go_wp2
      go_ret
      exact .inl ⟨HRN.out, rfl, ext_frm HX7.out HF8.out HDP.out.2.1⟩
  have hk1b : ((k : Int) == 1) = false := by simp; omega
  have hk1c : (k == 1) = false := by simpa using hk1
  by_cases hk2 : k = 2
  · subst hk2
    have hrw := HRW.out
    rw [if_neg (by decide), if_pos rfl] at hrw
    have hTX := fun W (h : ScAt D W gs s3) => SText_any h 4096 (by omega)
    have htl := s3.text_len 4096
    obtain ⟨⟨tx, s4⟩, hr4⟩ : ∃ r, r = s3.text 4096 := ⟨_, rfl⟩
    rw [← hr4] at hrw hTX htl
    dsimp only at hrw hTX htl
    have hn1 : n1 < 9223372036854775808 := by
      have h := Sc.num_bound s1 HS1.out.end0
      rw [← HR2.out] at h
      exact h.1
    have HRW1 := hid hrw
    have HTX := hid hTX
    have HTL := hid htl
    have hE4 := hid (fun W (h : ScAt D W gs s4) => End_any h)
    clear hrw HRW hTX htl hr4 hk1b hk1c hk1
    go_wp2_with fail
    refine Calls.mono (HN1.out w3 HS1.out) ?_
    rintro e w4 ⟨rfl, hs2, hf4⟩
    have HS4 := hid hs2
    have HP4 := hid ((hf4.block p (Array.getElem?_eq_some_iff.1 HP3.out).1 HDP.out.1).trans HP3.out)
    have HX4 := hid (ext_frm HX3.out hf4 HDP.out.2.1)
    have hn2 : n2 < 9223372036854775808 := by
      have h := Sc.num_bound s2 hs2.end0
      rw [← HR3.out] at h
      exact h.1
    clear hs2 hf4
    go_wp2_with fail
    refine Calls.mono (HN2'.out w4 HS4.out) ?_
    rintro e w5 ⟨rfl, hs3, hf5⟩
    have HS5 := hid hs3
    have HP5 := hid ((hf5.block p (Array.getElem?_eq_some_iff.1 HP4.out).1 HDP.out.1).trans HP4.out)
    have HX5 := hid (ext_frm HX4.out hf5 HDP.out.2.1)
    clear hs3 hf5
    go_wp2_with fail
    refine Calls.mono (HTX.out w5 HS5.out) ?_
    rintro e w6 ⟨rfl, hs4, hf6⟩
    have HS6 := hid hs4
    have hp6 := (hf6.block p (Array.getElem?_eq_some_iff.1 HP5.out).1 HDP.out.1).trans HP5.out
    have HP6 := hid hp6
    have HPL6 := hid (Array.getElem?_eq_some_iff.1 hp6).1
    have HX6 := hid (ext_frm HX5.out hf6 HDP.out.2.1)
    obtain ⟨cap, w7, hcv, hx7, hby7, hz7⟩ := conv_bytes tx w6 (by have := HTL.out; omega)
    have hx8 := ext_alloc w7 (.cells #[.int .i64 (n1 : Int), .int .i64 (n2 : Int), .slice (some ⟨w6.heap.size, 0, none⟩) tx.length cap] 46)
    have hn8 := heap_alloc_new w7 (.cells #[.int .i64 (n1 : Int), .int .i64 (n2 : Int), .slice (some ⟨w6.heap.size, 0, none⟩) tx.length cap] 46)
    have HX67 := hid hx7
    have HX78 := hid hx8
    have HN8 := hid hn8
    have HBY := hid (hby7.below hx8)
    have HZ7 := hid hz7
    clear hs4 hf6 hp6 hx7 hx8 hn8 hby7 hz7 HS4 HS5 HP4 HP5
    go_wp2_with fail
    generalize w7.alloc (.cells #[.int .i64 (n1 : Int), .int .i64 (n2 : Int), .slice (some ⟨w6.heap.size, 0, none⟩) tx.length cap] 46) = w8 at *
    clear hcv
    obtain ⟨pt, hpt⟩ : ∃ pt, pt = w6.heap.size := ⟨_, rfl⟩
    obtain ⟨pe, hpe⟩ : ∃ pe, pe = w7.heap.size := ⟨_, rfl⟩
    rw [← hpt] at HN8 HBY ⊢
    rw [← hpe] at HN8 ⊢
    have HX8 := hid (HX6.out.trans' (HX67.out.trans' HX78.out))
    have HV8 := hid (HV.out.below HX8.out)
    have hgd := goodE_any HV8.out ⟨n1, n2, tx⟩ (ea := some ⟨pt, 0, none⟩) (en := tx.length) (ec := cap) rfl
    dsimp only at hgd
    obtain ⟨gd, hgdv⟩ : ∃ gd, gd = v.good ⟨n1, n2, tx⟩ := ⟨_, rfl⟩
    rw [← hgdv] at hgd
    have hrw := HRW1.out
    rw [← hgdv] at hrw
    have HRW2 := hid hrw
    have HGD := hid hgd
    have HPTE := hid (show p < pt ∧ pt < pe by have h1 := HPL6.out; have h2 := HZ7.out; omega)
    clear hgd hgdv hrw hpt hpe HRW1
    refine Calls.mono HGD.out ?_
    rintro e w9 ⟨rfl, hx9⟩
    have HX9 := hid (HX8.out.trans' hx9)
    have HV9 := hid (HV8.out.below hx9)
    have HX69 := hid ((HX67.out.trans' HX78.out).trans' hx9)
    have HS9 := hid (HS6.out.ext HX69.out)
    have HP9 := hid ((HX69.out.block p HPL6.out).trans HP6.out)
    have HE9 := hid ((hx9.block pe (Array.getElem?_eq_some_iff.1 HN8.out).1).trans HN8.out)
    have HBY9 := hid ((HBY.out.below hx9).keep (w' := w9) (G := fun q => q = pt ∧ q < w9.heap.size) fun q hq hl => ⟨⟨hq, hl⟩, rfl⟩)
    clear hx9 HGD HV8 HS6 HP6 HN8 HBY HX67 HX78
    obtain ⟨H, hHl, hrow, hHk⟩ := EsF.raw (EsF.below HV.out.es.lt HX9.out)
    have HHL := hid hHl
    have HHK := hid hHk
    have hac : la = none → lc = 0 := HV.out.es.2.2.2.1
    have HCL := hid (fun W (hW : Ext w9 W) => cloneE_any la ln lc H W (by have h1 := HLN.out.1; rw [h1, hHl]) (by have := HLN.out.2; omega) hac (hrow.ext hW))
    clear hHl hrow hHk hac
    go_wp2
    have y0 : w9.drew.heap[g]? = w9.heap[g]? ∧ w9.drew.heap[pe]? = w9.heap[pe]? := ⟨rfl, rfl⟩
    refine wp_region_held_drew (S := fun W => W.heap[g]? = w9.heap[g]? ∧ W.heap[pe]? = w9.heap[pe]?) (by kernel_rfl) y0 (fun hH => ?_)
    obtain ⟨wd, hwd⟩ : ∃ wd, wd = w9.drew := ⟨_, rfl⟩
    have hxd : Ext w9 wd := by rw [hwd]; exact ext_drew w9
    rw [← hwd] at y0 ⊢
    have HXD := hid hxd
    have HC := hid (fun (W : World) (hW : W.heap[g]? = w9.heap[g]? ∧ W.heap[pe]? = w9.heap[pe]?) => show W.cell? ⟨g, 4, none⟩ = some (.slice la ln lc) from (World.cell?_of_block (w := w9) (a := ⟨g, 4, none⟩) hW.1).trans HV9.out.c4)
    have HCE := hid (fun (W : World) (hW : W.heap[g]? = w9.heap[g]? ∧ W.heap[pe]? = w9.heap[pe]?) => gcells3 (hW.2.trans HE9.out))
    have HGL9 := hid (show g < w9.heap.size ∧ pe < w9.heap.size from ⟨Nat.lt_of_lt_of_le hgl HX9.out.size, (Array.getElem?_eq_some_iff.1 HE9.out).1⟩)
    clear hH hwd hxd
    refine held_run (i := 0) (v := .pointer (some ⟨g, 0, none⟩)) rfl (by kernel_rfl) (by kernel_rfl) (by kernel_rfl) (fun _ _ _ h => h) (by rfl) y0 (fun W hW => ?_) ?_
    · (clear hW; go_simp)
    try simp only [Act.put, List.setIfInBounds_toArray, List.set_cons_zero, List.set_cons_succ]
    refine held_run (i := 1) (v := .pointer (some ⟨g, 0, none⟩)) rfl (by kernel_rfl) (by kernel_rfl) (by kernel_rfl) (fun _ _ _ h => h) (by rfl) y0 (fun W hW => ?_) ?_
    · (clear hW; go_simp)
    try simp only [Act.put, List.setIfInBounds_toArray, List.set_cons_zero, List.set_cons_succ]
    refine held_run (i := 2) (v := .pointer (some ⟨g, 4, none⟩)) rfl (by kernel_rfl) (by kernel_rfl) (by kernel_rfl) (fun _ _ _ h => h) (by rfl) y0 (fun W hW => ?_) ?_
    · (clear hW; go_simp)
    try simp only [Act.put, List.setIfInBounds_toArray, List.set_cons_zero, List.set_cons_succ]
    refine held_run (i := 3) (v := .slice la ln lc) rfl (by kernel_rfl) (by kernel_rfl) (by kernel_rfl) (fun _ _ _ h => h) (by rfl) y0 (fun W hW => ?_) ?_
    · (have r0 := HC.out W hW; clear hW; go_simp)
    try simp only [Act.put, List.setIfInBounds_toArray, List.set_cons_zero, List.set_cons_succ]
    refine held_run (i := 5) (v := .agg #[.int .i64 (n1 : Int), .int .i64 (n2 : Int), .slice (some ⟨pt, 0, none⟩) tx.length cap]) rfl (by kernel_rfl) (by kernel_rfl) (by kernel_rfl) (fun _ _ _ h => h) (by rfl) y0 (fun W hW => ?_) ?_
    · (obtain ⟨r0, r1, r2⟩ := HCE.out W hW; clear hW; go_simp)
    try simp only [Act.put, List.setIfInBounds_toArray, List.set_cons_zero, List.set_cons_succ]
    refine wpAnyH_ready (rs := [4, 6]) (by kernel_rfl) (by simp) ?_
    refine held_cons2 (i := 4) (j := 6) rfl rfl (fun K hK => ?_) (fun K hK => ?_)
    · skip
      go_simp
      go_at_call 52
      refine Calls.mono (HCL.out wd HXD.out) ?_
      rintro e wc ⟨vc, rfl, hoc, hxc⟩
      have y1 := And.intro ((hxc.block g (Nat.lt_of_lt_of_le HGL9.out.1 HXD.out.size)).trans y0.1) ((hxc.block pe (Nat.lt_of_lt_of_le HGL9.out.2 HXD.out.size)).trans y0.2)
      have HBS := hid HXD.out.size
      have HXDC := hid hxc.size
      have HXC := hid (HXD.out.trans' hxc)
      have HOC := hid hoc
      obtain ⟨vca, vcc, rfl⟩ := own_slice2 hoc
      clear hoc hxc
      dsimp only
      refine hK.out _ _ y1 (fun hH => ?_)
      clear hK K y0 hH
      have y0 := y1
      clear y1
      try simp only [Act.put, List.setIfInBounds_toArray, List.set_cons_zero, List.set_cons_succ]
      refine wpAnyH_ready (rs := [6]) (by kernel_rfl) (by simp) ?_
      refine held_cons (i := 6) rfl (fun K hK => ?_)
      go_simp
      have x2 := ext_alloc wc (.cells #[.int .i64 (n1 : Int), .int .i64 (n2 : Int), .slice (some ⟨pt, 0, none⟩) tx.length cap] 46)
      have y1 := And.intro ((x2.block g (Nat.lt_of_lt_of_le HGL9.out.1 HXC.out.size)).trans y0.1) ((x2.block pe (Nat.lt_of_lt_of_le HGL9.out.2 HXC.out.size)).trans y0.2)
      have HNR := hid (wnews_row wc [.int .i64 (n1 : Int), .int .i64 (n2 : Int), .slice (some ⟨pt, 0, none⟩) tx.length cap] 1 3 46 rfl)
      have HXB := hid (HXC.out.trans' x2)
      have HBL := hid (show wd.heap.size ≤ (wc.alloc (.cells #[.int .i64 (n1 : Int), .int .i64 (n2 : Int), .slice (some ⟨pt, 0, none⟩) tx.length cap] 46)).heap.size by have h1 := HOC.out; rw [World.size_alloc]; have h2 := HXDC.out; omega)
      have HOC := hid (HOC.out.alloc (.cells #[.int .i64 (n1 : Int), .int .i64 (n2 : Int), .slice (some ⟨pt, 0, none⟩) tx.length cap] 46))
      clear x2
      refine hK.out _ _ y1 (fun hH => ?_)
      clear hK K y0 hH
      have y0 := y1
      clear y1
      try simp only [Act.put, List.setIfInBounds_toArray, List.set_cons_zero, List.set_cons_succ]
      generalize hwe : wc.alloc (.cells #[.int .i64 (n1 : Int), .int .i64 (n2 : Int), .slice (some ⟨pt, 0, none⟩) tx.length cap] 46) = we at *
      obtain ⟨pb, hpb⟩ : ∃ pb, pb = wc.heap.size := ⟨_, rfl⟩
      rw [← hpb] at HNR ⊢
      clear hwe hpb
      refine wpAnyH_ready (rs := [7]) (by kernel_rfl) (by simp) ?_
      refine held_cons (i := 7) rfl (fun K hK => ?_)
      rw [if_pos (by rfl)]
      refine wp_appRow (.tmp 45) (.tmp 47) 40 rfl wd.heap.size 46 (.agg #[.int .i64 0, .int .i64 0, .slice none 0 0]) 3 40 Tryz.underlying40 info_ent rfl (by decide) (.slice vca H.length vcc) H.length (rawH H) rfl HOC.out ⟨pb, 0, none⟩ 1 1 _ rfl HNR.out (wthree _ _ _ _ _) (by have h1 := HHL.out; have h2 := HLN.out; unfold maxLen; omega) (by have h1 := HHL.out; have h2 := HLN.out; omega) (by have := HBL.out; omega) ?_
      intro v6 w10 hro hgr hat
      obtain ⟨a6, c6, hv6⟩ := own_slice2 hro
      subst hv6
      have hxe : Ext w9 w10 := HXB.out.grown hgr HXB.out.size (fun q hq => by have h1 := (HOC.out.lt q hq).1; have h2 := HBS.out; omega)
      have y1 := And.intro ((hxe.block g HGL9.out.1)) ((hxe.block pe HGL9.out.2))
      have HXE := hid hxe
      have HRO := hid hro
      clear hro hgr hat hxe
      refine hK.out _ _ y1 (fun hH => ?_)
      clear hK K y0 hH
      have y0 := y1
      clear y1
      try simp only [Act.put, List.setIfInBounds_toArray, List.set_cons_zero, List.set_cons_succ]
      refine held_run (i := 8) (v := .pointer (some ⟨p, 4, none⟩)) rfl (by kernel_rfl) (by kernel_rfl) (by kernel_rfl) (fun _ _ _ h => h) (by rfl) y0 (fun W hW => ?_) ?_
      · (clear hW; go_simp)
      try simp only [Act.put, List.setIfInBounds_toArray, List.set_cons_zero, List.set_cons_succ]
      refine wpAnyH_ready (rs := [9]) (by kernel_rfl) (by simp) ?_
      refine held_cons (i := 9) rfl (fun K hK => ?_)
      have hp6 := (HXE.out.block p (Array.getElem?_eq_some_iff.1 HP9.out).1).trans HP9.out
      obtain ⟨⟨c0, c1, c2, c3, c4⟩, cfz, cl⟩ := vcells5 hp6
      have f4 := cfz 4
      have hS := (SetG.start hp6).step 4 (.slice a6 (H.length + 1) c6)
      have HSg := hid hS
      have hpe0 : pe ≠ p := by have := HPTE.out; omega
      have y1 := And.intro ((heap_setCell_other w10 ⟨p, 4, none⟩ g (.slice a6 (H.length + 1) c6) (by show g ≠ p; exact HDP.out.2.2.2)).trans y0.1) ((heap_setCell_other w10 ⟨p, 4, none⟩ pe (.slice a6 (H.length + 1) c6) (by show pe ≠ p; exact hpe0)).trans y0.2)
      clear hp6 cfz hS hpe0
      go_simp
      clear c0 c1 c2 c3 c4 f4 cl
      refine hK.out _ _ y1 (fun hH => ?_)
      clear hK K y0 hH
      have y0 := y1
      clear y1
      try simp only [Act.put, List.setIfInBounds_toArray, List.set_cons_zero, List.set_cons_succ]
      refine wpAnyH_done (by kernel_rfl) ?_ _
      generalize w10.setCell ⟨p, 4, none⟩ (.slice a6 (H.length + 1) c6) = w11 at *
      clear y0
      have hes := es_back (F := fun q => (F q ∧ q < w.heap.size) ∨ (q = pt ∧ q < w9.heap.size)) (H := H ++ [⟨n1, n2, some ⟨pt, 0, none⟩, tx.length, cap⟩]) (l := v.l ++ [⟨n1, n2, tx⟩]) (w := w10) (B := wd.heap.size) (v := .slice a6 (H.length + 1) c6) (by rw [List.length_append, rawH_snoc]; exact HRO.out) (by simp [HHL.out])
        (fun j h1 h2 => by
          rw [List.length_append, List.length_cons, List.length_nil] at h1
          by_cases hj : j < H.length
          · have hj2 : j < v.l.length := by have := HHL.out; omega
            rw [List.getElem_append_left hj, List.getElem_append_left hj2]
            obtain ⟨e1, e2, e3⟩ := HHK.out j hj hj2
            exact ⟨e1, e2, (e3.below HXE.out).more fun q hq => .inl hq⟩
          obtain rfl : j = H.length := by omega
          have hj2 : H.length = v.l.length := HHL.out
          rw [List.getElem_append_right (by omega), List.getElem_append_right (by omega)]
          simp only [Nat.sub_self, hj2]
          exact ⟨rfl, rfl, (HBY9.out.below HXE.out).more fun q hq => .inr hq⟩)
        (fun j hj => by
          rw [List.length_append, List.length_cons, List.length_nil] at hj
          by_cases hj2 : j < v.l.length
          · rw [List.getElem_append_left hj2]
            exact HV.out.es.h64 j hj2
          rw [List.getElem_append_right (by omega)]
          have : j - v.l.length = 0 := by omega
          simp only [this]
          exact ⟨⟨by show _ ≤ (n1 : Int); omega, by show (n1 : Int) ≤ _; omega⟩, ⟨by show _ ≤ (n2 : Int); omega, by show (n2 : Int) ≤ _; omega⟩⟩)
        (by rw [List.length_append, List.length_cons, List.length_nil]; have h1 := HLN.out; omega)
      obtain ⟨ax, cx, hav, hes⟩ := hes
      have hh : H.length + 1 = (v.l ++ [⟨n1, n2, tx⟩] : List Ent).length := by rw [List.length_append, List.length_cons, List.length_nil]; have := HHL.out; omega
      rw [← hh] at hav hes
      obtain ⟨rfl, rfl⟩ : a6 = ax ∧ c6 = cx := by simp only [Value.slice.injEq, true_and] at hav; exact hav
      have hzz : w9.heap.size ≤ wd.heap.size := HBS.out
      have HES := hid (hes.keep (w' := w11) (G := fun q => (F q ∧ q < w.heap.size) ∨ (p < q ∧ q < w11.heap.size)) fun q hq hl => by
        have h1 := HPTE.out
        have h2 := HGL9.out
        have h3 := HDP.out.2.2.1
        have h4 := HSg.out.size
        rcases hq with (hq | hq) | hq
        · exact ⟨.inl hq, HSg.out.frm.block q hl (by show ¬ q = p; omega)⟩
        · exact ⟨.inr ⟨by omega, by omega⟩, HSg.out.frm.block q hl (by show ¬ q = p; omega)⟩
        exact ⟨.inr ⟨by omega, by omega⟩, HSg.out.frm.block q hl (by show ¬ q = p; omega)⟩)
      have hp7 : w11.heap[p]? = some (.cells #[.int .i64 v.ht, .int .i64 v.hv, .int .i64 v.i, .int .i64 v.t, .slice a6 (H.length + 1) c6] 62 (0, 0)) := by have h := HSg.out.obj; simpa using h
      have HP11 := hid hp7
      have HX11 := hid (ext_frm (HX9.out.trans' HXE.out) HSg.out.frm (fun q hq => by rw [show q = p from hq]; exact HDP.out.2.2.1))
      have HS11 := hid ((HS9.out.ext HXE.out).keep (w' := w11) fun q hq hl => HSg.out.frm.block q hl (by show ¬ q = p; intro e; subst e; exact HDP.out.1 hq))
      have hrn := HRW2.out
      clear hav hes hh hp7 hzz hn1 hn2
      cases gd with
      | false =>
        rw [if_neg (fun h => by cases h.1)] at hrn
        have HRN := hid hrn
        clear hrn
        go_wp2
        go_ret
        exact .inl ⟨HRN.out, rfl, HX11.out⟩
      | true =>
        have HEN := hid (hE4.out w11 HS11.out)
        obtain ⟨z, hz⟩ : ∃ z, z = s4.end_.1 := ⟨_, rfl⟩
        rw [← hz] at HEN hrn
        clear hz
        by_cases hz0 : z = 0
        · subst hz0
          rw [if_pos ⟨rfl, rfl⟩] at hrn
          have HRN := hid hrn
          clear hrn
          go_wp2_with fail
          refine Calls.mono HEN.out ?_
          rintro e w12 ⟨rfl, hf8⟩
          have HX12 := hid (ext_frm HX11.out hf8 HDP.out.2.1)
          have hp8 := (hf8.block p (Array.getElem?_eq_some_iff.1 HP11.out).1 HDP.out.1).trans HP11.out
          obtain ⟨⟨c0, c1, c2, c3, c4⟩, -, cl⟩ := vcells5 hp8
          have hsg := HS.out.ext HX12.out
          have g0 := hsg.2 0 (by decide)
          have g1 := hsg.2 1 (by decide)
          have g2 := hsg.2 2 (by decide)
          have g3 := hsg.2 3 (by decide)
          have g4 := hsg.2 4 (by decide)
          have hgl8 := hsg.1
          have hv8 := HV.out.below HX12.out
          have b0 := hv8.c0
          have b1 := hv8.c1
          have b2 := hv8.c2
          have b3 := hv8.c3
          have b4 := hv8.c4
          have HF8 := hid hf8
          clear hp8 hsg hf8 hv8
          go_wp2
          go_ret
          exact .inr ⟨_, HRN.out, rfl, w12, a6, (H.length + 1), c6, HX12.out, (HES.out.keep fun q hq hl => ⟨hq.imp (fun h => h.1) fun h => ⟨by have h1 := HDP.out.2.2.1; omega, Nat.lt_of_lt_of_le h.2 HF8.out.size⟩, HF8.out.block q hl (fun h => by have h1 := HDL.out q h; have h2 := HDP.out.2.2.1; rcases hq with hq | hq; have h3 := HDP.out.2.1 q h; omega; omega)⟩), rfl⟩
        rw [if_neg (fun h => hz0 h.2)] at hrn
        have HRN := hid hrn
        have hzb : (z != 0) = true := by simpa using hz0
        clear hrn hz0
        go_wp2_with fail
        refine Calls.mono HEN.out ?_
        rintro e w12 ⟨rfl, hf8⟩
        have HF8 := hid hf8
        clear hf8
        go_wp2
        go_ret
        exact .inl ⟨HRN.out, rfl, ext_frm HX11.out HF8.out HDP.out.2.1⟩
    skip
    go_simp
    have x2 := ext_alloc wd (.cells #[.int .i64 (n1 : Int), .int .i64 (n2 : Int), .slice (some ⟨pt, 0, none⟩) tx.length cap] 46)
    have y1 := And.intro ((x2.block g (Nat.lt_of_lt_of_le HGL9.out.1 HXD.out.size)).trans y0.1) ((x2.block pe (Nat.lt_of_lt_of_le HGL9.out.2 HXD.out.size)).trans y0.2)
    have HNR := hid (wnews_row wd [.int .i64 (n1 : Int), .int .i64 (n2 : Int), .slice (some ⟨pt, 0, none⟩) tx.length cap] 1 3 46 rfl)
    have HXB := hid (HXD.out.trans' x2)
    clear x2
    refine hK.out _ _ y1 (fun hH => ?_)
    clear hK K y0 hH
    have y0 := y1
    clear y1
    try simp only [Act.put, List.setIfInBounds_toArray, List.set_cons_zero, List.set_cons_succ]
    generalize hwe : wd.alloc (.cells #[.int .i64 (n1 : Int), .int .i64 (n2 : Int), .slice (some ⟨pt, 0, none⟩) tx.length cap] 46) = we at *
    obtain ⟨pb, hpb⟩ : ∃ pb, pb = wd.heap.size := ⟨_, rfl⟩
    rw [← hpb] at HNR ⊢
    clear hwe hpb
    refine wpAnyH_ready (rs := [4]) (by kernel_rfl) (by simp) ?_
    refine held_cons (i := 4) rfl (fun K hK => ?_)
    go_simp
    go_at_call 52
    refine Calls.mono (HCL.out we HXB.out) ?_
    rintro e wc ⟨vc, rfl, hoc, hxc⟩
    have y1 := And.intro ((hxc.block g (Nat.lt_of_lt_of_le HGL9.out.1 HXB.out.size)).trans y0.1) ((hxc.block pe (Nat.lt_of_lt_of_le HGL9.out.2 HXB.out.size)).trans y0.2)
    have HBS := hid HXB.out.size
    have HBL := hid hxc.size
    have HNR := hid (HNR.out.ext hxc)
    have HXC := hid (HXB.out.trans' hxc)
    have HOC := hid hoc
    obtain ⟨vca, vcc, rfl⟩ := own_slice2 hoc
    clear hoc hxc
    dsimp only
    refine hK.out _ _ y1 (fun hH => ?_)
    clear hK K y0 hH
    have y0 := y1
    clear y1
    try simp only [Act.put, List.setIfInBounds_toArray, List.set_cons_zero, List.set_cons_succ]
    refine wpAnyH_ready (rs := [7]) (by kernel_rfl) (by simp) ?_
    refine held_cons (i := 7) rfl (fun K hK => ?_)
    rw [if_pos (by rfl)]
    refine wp_appRow (.tmp 45) (.tmp 47) 40 rfl we.heap.size 46 (.agg #[.int .i64 0, .int .i64 0, .slice none 0 0]) 3 40 Tryz.underlying40 info_ent rfl (by decide) (.slice vca H.length vcc) H.length (rawH H) rfl HOC.out ⟨pb, 0, none⟩ 1 1 _ rfl HNR.out (wthree _ _ _ _ _) (by have h1 := HHL.out; have h2 := HLN.out; unfold maxLen; omega) (by have h1 := HHL.out; have h2 := HLN.out; omega) (by have := HBL.out; omega) ?_
    intro v6 w10 hro hgr hat
    obtain ⟨a6, c6, hv6⟩ := own_slice2 hro
    subst hv6
    have hxe : Ext w9 w10 := HXC.out.grown hgr HXC.out.size (fun q hq => by have h1 := (HOC.out.lt q hq).1; have h2 := HBS.out; omega)
    have y1 := And.intro ((hxe.block g HGL9.out.1)) ((hxe.block pe HGL9.out.2))
    have HXE := hid hxe
    have HRO := hid hro
    clear hro hgr hat hxe
    refine hK.out _ _ y1 (fun hH => ?_)
    clear hK K y0 hH
    have y0 := y1
    clear y1
    try simp only [Act.put, List.setIfInBounds_toArray, List.set_cons_zero, List.set_cons_succ]
    refine held_run (i := 8) (v := .pointer (some ⟨p, 4, none⟩)) rfl (by kernel_rfl) (by kernel_rfl) (by kernel_rfl) (fun _ _ _ h => h) (by rfl) y0 (fun W hW => ?_) ?_
    · (clear hW; go_simp)
    try simp only [Act.put, List.setIfInBounds_toArray, List.set_cons_zero, List.set_cons_succ]
    refine wpAnyH_ready (rs := [9]) (by kernel_rfl) (by simp) ?_
    refine held_cons (i := 9) rfl (fun K hK => ?_)
    have hp6 := (HXE.out.block p (Array.getElem?_eq_some_iff.1 HP9.out).1).trans HP9.out
    obtain ⟨⟨c0, c1, c2, c3, c4⟩, cfz, cl⟩ := vcells5 hp6
    have f4 := cfz 4
    have hS := (SetG.start hp6).step 4 (.slice a6 (H.length + 1) c6)
    have HSg := hid hS
    have hpe0 : pe ≠ p := by have := HPTE.out; omega
    have y1 := And.intro ((heap_setCell_other w10 ⟨p, 4, none⟩ g (.slice a6 (H.length + 1) c6) (by show g ≠ p; exact HDP.out.2.2.2)).trans y0.1) ((heap_setCell_other w10 ⟨p, 4, none⟩ pe (.slice a6 (H.length + 1) c6) (by show pe ≠ p; exact hpe0)).trans y0.2)
    clear hp6 cfz hS hpe0
    go_simp
    clear c0 c1 c2 c3 c4 f4 cl
    refine hK.out _ _ y1 (fun hH => ?_)
    clear hK K y0 hH
    have y0 := y1
    clear y1
    try simp only [Act.put, List.setIfInBounds_toArray, List.set_cons_zero, List.set_cons_succ]
    refine wpAnyH_done (by kernel_rfl) ?_ _
    generalize w10.setCell ⟨p, 4, none⟩ (.slice a6 (H.length + 1) c6) = w11 at *
    clear y0
    have hes := es_back (F := fun q => (F q ∧ q < w.heap.size) ∨ (q = pt ∧ q < w9.heap.size)) (H := H ++ [⟨n1, n2, some ⟨pt, 0, none⟩, tx.length, cap⟩]) (l := v.l ++ [⟨n1, n2, tx⟩]) (w := w10) (B := we.heap.size) (v := .slice a6 (H.length + 1) c6) (by rw [List.length_append, rawH_snoc]; exact HRO.out) (by simp [HHL.out])
      (fun j h1 h2 => by
        rw [List.length_append, List.length_cons, List.length_nil] at h1
        by_cases hj : j < H.length
        · have hj2 : j < v.l.length := by have := HHL.out; omega
          rw [List.getElem_append_left hj, List.getElem_append_left hj2]
          obtain ⟨e1, e2, e3⟩ := HHK.out j hj hj2
          exact ⟨e1, e2, (e3.below HXE.out).more fun q hq => .inl hq⟩
        obtain rfl : j = H.length := by omega
        have hj2 : H.length = v.l.length := HHL.out
        rw [List.getElem_append_right (by omega), List.getElem_append_right (by omega)]
        simp only [Nat.sub_self, hj2]
        exact ⟨rfl, rfl, (HBY9.out.below HXE.out).more fun q hq => .inr hq⟩)
      (fun j hj => by
        rw [List.length_append, List.length_cons, List.length_nil] at hj
        by_cases hj2 : j < v.l.length
        · rw [List.getElem_append_left hj2]
          exact HV.out.es.h64 j hj2
        rw [List.getElem_append_right (by omega)]
        have : j - v.l.length = 0 := by omega
        simp only [this]
        exact ⟨⟨by show _ ≤ (n1 : Int); omega, by show (n1 : Int) ≤ _; omega⟩, ⟨by show _ ≤ (n2 : Int); omega, by show (n2 : Int) ≤ _; omega⟩⟩)
      (by rw [List.length_append, List.length_cons, List.length_nil]; have h1 := HLN.out; omega)
    obtain ⟨ax, cx, hav, hes⟩ := hes
    have hh : H.length + 1 = (v.l ++ [⟨n1, n2, tx⟩] : List Ent).length := by rw [List.length_append, List.length_cons, List.length_nil]; have := HHL.out; omega
    rw [← hh] at hav hes
    obtain ⟨rfl, rfl⟩ : a6 = ax ∧ c6 = cx := by simp only [Value.slice.injEq, true_and] at hav; exact hav
    have hzz : w9.heap.size ≤ we.heap.size := HBS.out
    have HES := hid (hes.keep (w' := w11) (G := fun q => (F q ∧ q < w.heap.size) ∨ (p < q ∧ q < w11.heap.size)) fun q hq hl => by
      have h1 := HPTE.out
      have h2 := HGL9.out
      have h3 := HDP.out.2.2.1
      have h4 := HSg.out.size
      rcases hq with (hq | hq) | hq
      · exact ⟨.inl hq, HSg.out.frm.block q hl (by show ¬ q = p; omega)⟩
      · exact ⟨.inr ⟨by omega, by omega⟩, HSg.out.frm.block q hl (by show ¬ q = p; omega)⟩
      exact ⟨.inr ⟨by omega, by omega⟩, HSg.out.frm.block q hl (by show ¬ q = p; omega)⟩)
    have hp7 : w11.heap[p]? = some (.cells #[.int .i64 v.ht, .int .i64 v.hv, .int .i64 v.i, .int .i64 v.t, .slice a6 (H.length + 1) c6] 62 (0, 0)) := by have h := HSg.out.obj; simpa using h
    have HP11 := hid hp7
    have HX11 := hid (ext_frm (HX9.out.trans' HXE.out) HSg.out.frm (fun q hq => by rw [show q = p from hq]; exact HDP.out.2.2.1))
    have HS11 := hid ((HS9.out.ext HXE.out).keep (w' := w11) fun q hq hl => HSg.out.frm.block q hl (by show ¬ q = p; intro e; subst e; exact HDP.out.1 hq))
    have hrn := HRW2.out
    clear hav hes hh hp7 hzz hn1 hn2
    cases gd with
    | false =>
      rw [if_neg (fun h => by cases h.1)] at hrn
      have HRN := hid hrn
      clear hrn
      go_wp2
      go_ret
      exact .inl ⟨HRN.out, rfl, HX11.out⟩
    | true =>
      have HEN := hid (hE4.out w11 HS11.out)
      obtain ⟨z, hz⟩ : ∃ z, z = s4.end_.1 := ⟨_, rfl⟩
      rw [← hz] at HEN hrn
      clear hz
      by_cases hz0 : z = 0
      · subst hz0
        rw [if_pos ⟨rfl, rfl⟩] at hrn
        have HRN := hid hrn
        clear hrn
        go_wp2_with fail
        refine Calls.mono HEN.out ?_
        rintro e w12 ⟨rfl, hf8⟩
        have HX12 := hid (ext_frm HX11.out hf8 HDP.out.2.1)
        have hp8 := (hf8.block p (Array.getElem?_eq_some_iff.1 HP11.out).1 HDP.out.1).trans HP11.out
        obtain ⟨⟨c0, c1, c2, c3, c4⟩, -, cl⟩ := vcells5 hp8
        have hsg := HS.out.ext HX12.out
        have g0 := hsg.2 0 (by decide)
        have g1 := hsg.2 1 (by decide)
        have g2 := hsg.2 2 (by decide)
        have g3 := hsg.2 3 (by decide)
        have g4 := hsg.2 4 (by decide)
        have hgl8 := hsg.1
        have hv8 := HV.out.below HX12.out
        have b0 := hv8.c0
        have b1 := hv8.c1
        have b2 := hv8.c2
        have b3 := hv8.c3
        have b4 := hv8.c4
        have HF8 := hid hf8
        clear hp8 hsg hf8 hv8
        go_wp2
        go_ret
        exact .inr ⟨_, HRN.out, rfl, w12, a6, (H.length + 1), c6, HX12.out, (HES.out.keep fun q hq hl => ⟨hq.imp (fun h => h.1) fun h => ⟨by have h1 := HDP.out.2.2.1; omega, Nat.lt_of_lt_of_le h.2 HF8.out.size⟩, HF8.out.block q hl (fun h => by have h1 := HDL.out q h; have h2 := HDP.out.2.2.1; rcases hq with hq | hq; have h3 := HDP.out.2.1 q h; omega; omega)⟩), rfl⟩
      rw [if_neg (fun h => hz0 h.2)] at hrn
      have HRN := hid hrn
      have hzb : (z != 0) = true := by simpa using hz0
      clear hrn hz0
      go_wp2_with fail
      refine Calls.mono HEN.out ?_
      rintro e w12 ⟨rfl, hf8⟩
      have HF8 := hid hf8
      clear hf8
      go_wp2
      go_ret
      exact .inl ⟨HRN.out, rfl, ext_frm HX11.out HF8.out HDP.out.2.1⟩
  have hk2b : ((k : Int) == 2) = false := by simp; omega
  have hk2c : (k == 2) = false := by simpa using hk2
  by_cases hk3 : k = 3
  · subst hk3
    have hrw := HRW.out
    rw [if_neg (by decide), if_neg (by decide), if_pos rfl] at hrw
    have HRW1 := hid hrw
    clear hrw HRW hk1b hk1c hk2b hk2c hk1 hk2
    have hn63 : (n1 : Int) ≤ 9223372036854775807 := by
      have h := Sc.num_bound s1 HS1.out.end0
      rw [← HR2.out] at h
      have := h.1
      dsimp only at this
      omega
    go_wp2_with fail
    refine Calls.mono (HN1.out w3 HS1.out) ?_
    rintro e w4 ⟨rfl, hs2, hf4⟩
    have HS4 := hid hs2
    have HP4 := hid ((hf4.block p (Array.getElem?_eq_some_iff.1 HP3.out).1 HDP.out.1).trans HP3.out)
    have HX4 := hid (ext_frm HX3.out hf4 HDP.out.2.1)
    have HV4 := hid (HV.out.below HX4.out)
    have q2 := HV4.out.c2
    have hglw : g < w4.heap.size := Nat.lt_of_lt_of_le hgl HX4.out.size
    clear hs2 hf4
    by_cases a1 : v.i < (n1 : Int)
    · have a1b : decide (v.i < (n1 : Int)) = true := by simpa using a1
      have HLA := hid (last_any HV4.out)
      obtain ⟨zl, hzl⟩ : ∃ zl, zl = v.last := ⟨_, rfl⟩
      have hll := hzl
      unfold Wv.last at hll
      rw [← hzl] at HLA HRW1
      by_cases a2 : (n1 : Int) ≤ zl
      · have a2b : decide ((n1 : Int) ≤ zl) = true := by simpa using a2
        obtain ⟨u, hu⟩ : ∃ u : Nat, (n1 : Int) - v.i - 1 = (u : Int) := ⟨((n1 : Int) - v.i - 1).toNat, by omega⟩
        have hul : u ≤ ln := by have := HLN.out.1; omega
        have hrn := HRW1.out
        rw [hu] at hrn
        obtain ⟨d1, hd1⟩ : ∃ d1 : Int, d1 = (n1 : Int) - v.i := ⟨_, rfl⟩
        have hw1 : IntKind.i64.wrap ((n1 : Int) - v.i) = d1 := by rw [hd1]; have h1 := HBIG.out.1; exact IntWalk.i64_in _ ⟨by omega, by have := HLN.out; omega⟩
        have hw2 : IntKind.i64.wrap (d1 - 1) = (u : Int) := by rw [hd1, hu]; exact IntWalk.i64_in _ ⟨by omega, by have := HLN.out; omega⟩
        have HA12 := hid (And.intro a1 a2)
        have HRW2 := hid hrn
        clear a1 a2 hll hzl hrn hd1 hu HRW1
        go_wp2_with fail
        refine Calls.mono HLA.out ?_
        rintro e w5 ⟨rfl, qn, hw⟩
        have hx5 : Ext w4 w5 := by rw [hw]; exact ext_drewN _ _
        have HX5 := hid (HX4.out.trans' hx5)
        have HS5 := hid (HS4.out.ext hx5)
        have HP5 := hid ((hx5.block p (Array.getElem?_eq_some_iff.1 HP4.out).1).trans HP4.out)
        have HV5 := hid (HV4.out.below hx5)
        clear hw hx5 q2
        go_wp2
        have y0 : w5.drew.heap[g]? = w5.heap[g]? := rfl
        refine wp_region_held_drew (S := fun W => W.heap[g]? = w5.heap[g]?) (by kernel_rfl) y0 (fun hH => ?_)
        obtain ⟨wd, hwd⟩ : ∃ wd, wd = w5.drew := ⟨_, rfl⟩
        have hxd : Ext w5 wd := by rw [hwd]; exact ext_drew w5
        rw [← hwd] at y0 ⊢
        have HXD := hid hxd
        obtain ⟨ca, cm, ck, cut1, cut2, hcut⟩ := ecut_hm (EsF.below HV.out.es.lt HX5.out) (u : Int) (by omega) (by omega)
        rw [show ((u : Int)).toNat = u from by simp] at hcut
        have HCUT := hid hcut
        have HC := hid (fun (W : World) (hW : W.heap[g]? = w5.heap[g]?) => show W.cell? ⟨g, 2, none⟩ = some (.int .i64 v.i) ∧ W.cell? ⟨g, 4, none⟩ = some (.slice la ln lc) from ⟨(World.cell?_of_block (w := w5) (a := ⟨g, 2, none⟩) hW).trans HV5.out.c2, (World.cell?_of_block (w := w5) (a := ⟨g, 4, none⟩) hW).trans HV5.out.c4⟩)
        clear hH hwd hxd hcut
        refine held_run (i := 0) (v := .pointer (some ⟨g, 0, none⟩)) rfl (by kernel_rfl) (by kernel_rfl) (by kernel_rfl) (fun _ _ _ h => h) (by rfl) y0 (fun W hW => ?_) ?_
        · (clear hW; go_simp)
        try simp only [Act.put, List.setIfInBounds_toArray, List.set_cons_zero, List.set_cons_succ]
        refine held_run (i := 1) (v := .pointer (some ⟨g, 0, none⟩)) rfl (by kernel_rfl) (by kernel_rfl) (by kernel_rfl) (fun _ _ _ h => h) (by rfl) y0 (fun W hW => ?_) ?_
        · (clear hW; go_simp)
        try simp only [Act.put, List.setIfInBounds_toArray, List.set_cons_zero, List.set_cons_succ]
        refine held_run (i := 2) (v := .pointer (some ⟨g, 4, none⟩)) rfl (by kernel_rfl) (by kernel_rfl) (by kernel_rfl) (fun _ _ _ h => h) (by rfl) y0 (fun W hW => ?_) ?_
        · (clear hW; go_simp)
        try simp only [Act.put, List.setIfInBounds_toArray, List.set_cons_zero, List.set_cons_succ]
        refine held_run (i := 3) (v := .slice la ln lc) rfl (by kernel_rfl) (by kernel_rfl) (by kernel_rfl) (fun _ _ _ h => h) (by rfl) y0 (fun W hW => ?_) ?_
        · (obtain ⟨r0, r1⟩ := HC.out W hW; clear hW; go_simp)
        try simp only [Act.put, List.setIfInBounds_toArray, List.set_cons_zero, List.set_cons_succ]
        refine held_run (i := 4) (v := .int .i64 (n1 : Int)) rfl (by kernel_rfl) (by kernel_rfl) (by kernel_rfl) (fun _ _ _ h => h) (by rfl) y0 (fun W hW => ?_) ?_
        · (clear hW; go_simp)
        try simp only [Act.put, List.setIfInBounds_toArray, List.set_cons_zero, List.set_cons_succ]
        refine held_run (i := 5) (v := .pointer (some ⟨g, 0, none⟩)) rfl (by kernel_rfl) (by kernel_rfl) (by kernel_rfl) (fun _ _ _ h => h) (by rfl) y0 (fun W hW => ?_) ?_
        · (clear hW; go_simp)
        try simp only [Act.put, List.setIfInBounds_toArray, List.set_cons_zero, List.set_cons_succ]
        refine held_run (i := 6) (v := .pointer (some ⟨g, 0, none⟩)) rfl (by kernel_rfl) (by kernel_rfl) (by kernel_rfl) (fun _ _ _ h => h) (by rfl) y0 (fun W hW => ?_) ?_
        · (clear hW; go_simp)
        try simp only [Act.put, List.setIfInBounds_toArray, List.set_cons_zero, List.set_cons_succ]
        refine held_run (i := 7) (v := .pointer (some ⟨g, 2, none⟩)) rfl (by kernel_rfl) (by kernel_rfl) (by kernel_rfl) (fun _ _ _ h => h) (by rfl) y0 (fun W hW => ?_) ?_
        · (clear hW; go_simp)
        try simp only [Act.put, List.setIfInBounds_toArray, List.set_cons_zero, List.set_cons_succ]
        refine held_run (i := 8) (v := .int .i64 v.i) rfl (by kernel_rfl) (by kernel_rfl) (by kernel_rfl) (fun _ _ _ h => h) (by rfl) y0 (fun W hW => ?_) ?_
        · (obtain ⟨r0, r1⟩ := HC.out W hW; clear hW; go_simp)
        try simp only [Act.put, List.setIfInBounds_toArray, List.set_cons_zero, List.set_cons_succ]
        refine held_run (i := 9) (v := .int .i64 d1) rfl (by kernel_rfl) (by kernel_rfl) (by kernel_rfl) (fun _ _ _ h => h) (by rfl) y0 (fun W hW => ?_) ?_
        · (clear hW; go_simp)
        try simp only [Act.put, List.setIfInBounds_toArray, List.set_cons_zero, List.set_cons_succ]
        refine held_run (i := 10) (v := .int .i64 (u : Int)) rfl (by kernel_rfl) (by kernel_rfl) (by kernel_rfl) (fun _ _ _ h => h) (by rfl) y0 (fun W hW => ?_) ?_
        · (clear hW; go_simp)
        try simp only [Act.put, List.setIfInBounds_toArray, List.set_cons_zero, List.set_cons_succ]
        refine held_run (i := 11) (v := .int .i64 (n1 : Int)) rfl (by kernel_rfl) (by kernel_rfl) (by kernel_rfl) (fun _ _ _ h => h) (by rfl) y0 (fun W hW => ?_) ?_
        · (clear hW; go_simp)
        try simp only [Act.put, List.setIfInBounds_toArray, List.set_cons_zero, List.set_cons_succ]
        refine held_run (i := 12) (v := .pointer (some ⟨g, 0, none⟩)) rfl (by kernel_rfl) (by kernel_rfl) (by kernel_rfl) (fun _ _ _ h => h) (by rfl) y0 (fun W hW => ?_) ?_
        · (clear hW; go_simp)
        try simp only [Act.put, List.setIfInBounds_toArray, List.set_cons_zero, List.set_cons_succ]
        refine held_run (i := 13) (v := .pointer (some ⟨g, 0, none⟩)) rfl (by kernel_rfl) (by kernel_rfl) (by kernel_rfl) (fun _ _ _ h => h) (by rfl) y0 (fun W hW => ?_) ?_
        · (clear hW; go_simp)
        try simp only [Act.put, List.setIfInBounds_toArray, List.set_cons_zero, List.set_cons_succ]
        refine held_run (i := 14) (v := .pointer (some ⟨g, 2, none⟩)) rfl (by kernel_rfl) (by kernel_rfl) (by kernel_rfl) (fun _ _ _ h => h) (by rfl) y0 (fun W hW => ?_) ?_
        · (clear hW; go_simp)
        try simp only [Act.put, List.setIfInBounds_toArray, List.set_cons_zero, List.set_cons_succ]
        refine held_run (i := 15) (v := .int .i64 v.i) rfl (by kernel_rfl) (by kernel_rfl) (by kernel_rfl) (fun _ _ _ h => h) (by rfl) y0 (fun W hW => ?_) ?_
        · (obtain ⟨r0, r1⟩ := HC.out W hW; clear hW; go_simp)
        try simp only [Act.put, List.setIfInBounds_toArray, List.set_cons_zero, List.set_cons_succ]
        refine held_run (i := 16) (v := .int .i64 d1) rfl (by kernel_rfl) (by kernel_rfl) (by kernel_rfl) (fun _ _ _ h => h) (by rfl) y0 (fun W hW => ?_) ?_
        · (clear hW; go_simp)
        try simp only [Act.put, List.setIfInBounds_toArray, List.set_cons_zero, List.set_cons_succ]
        refine held_run (i := 17) (v := .int .i64 (u : Int)) rfl (by kernel_rfl) (by kernel_rfl) (by kernel_rfl) (fun _ _ _ h => h) (by rfl) y0 (fun W hW => ?_) ?_
        · (clear hW; go_simp)
        try simp only [Act.put, List.setIfInBounds_toArray, List.set_cons_zero, List.set_cons_succ]
        refine held_run (i := 18) (v := .slice ca cm ck) rfl (by kernel_rfl) (by kernel_rfl) (by kernel_rfl) (fun _ _ _ h => h) (by rfl) y0 (fun W hW => ?_) ?_
        · (clear hW; go_simp)
        try simp only [Act.put, List.setIfInBounds_toArray, List.set_cons_zero, List.set_cons_succ]
        refine held_run (i := 19) (v := .pointer (some ⟨p, 4, none⟩)) rfl (by kernel_rfl) (by kernel_rfl) (by kernel_rfl) (fun _ _ _ h => h) (by rfl) y0 (fun W hW => ?_) ?_
        · (clear hW; go_simp)
        try simp only [Act.put, List.setIfInBounds_toArray, List.set_cons_zero, List.set_cons_succ]
        refine wpAnyH_ready (rs := [20]) (by kernel_rfl) (by simp) ?_
        refine held_cons (i := 20) rfl (fun K hK => ?_)
        have hp6 := (HXD.out.block p (Array.getElem?_eq_some_iff.1 HP5.out).1).trans HP5.out
        obtain ⟨⟨c0, c1, c2, c3, c4⟩, cfz, cl⟩ := vcells5 hp6
        have f4 := cfz 4
        have hS := (SetG.start hp6).step 4 (.slice ca cm ck)
        have HSg := hid hS
        have y1 : (wd.setCell ⟨p, 4, none⟩ (.slice ca cm ck)).heap[g]? = w5.heap[g]? := (heap_setCell_other wd _ g _ (by show g ≠ p; exact HDP.out.2.2.2)).trans y0
        clear hp6 cfz hS
        go_simp
        clear c0 c1 c2 c3 c4 f4 cl
        refine hK.out _ _ y1 (fun hH => ?_)
        clear hK K y0 hH
        have y0 := y1
        clear y1
        try simp only [Act.put, List.setIfInBounds_toArray, List.set_cons_zero, List.set_cons_succ]
        refine wpAnyH_done (by kernel_rfl) ?_ _
        generalize wd.setCell ⟨p, 4, none⟩ (.slice ca cm ck) = w7 at *
        have hp7 : w7.heap[p]? = some (.cells #[.int .i64 v.ht, .int .i64 v.hv, .int .i64 v.i, .int .i64 v.t, .slice ca cm ck] 62 (0, 0)) := by have h := HSg.out.obj; simpa using h
        have HP7 := hid hp7
        have HX7 := hid (ext_frm (HX5.out.trans' HXD.out) HSg.out.frm (fun q hq => by rw [show q = p from hq]; exact HDP.out.2.2.1))
        have HS7 := hid ((HS5.out.ext HXD.out).keep (w' := w7) fun q hq hl => HSg.out.frm.block q hl (by show ¬ q = p; intro e; subst e; exact HDP.out.1 hq))
        have HEC := hid ((HCUT.out.below HXD.out).keep (w' := w7) (G := fun q => F q ∧ q < w.heap.size) fun q hq hl => ⟨hq, HSg.out.frm.block q hl (by show ¬ q = p; have h1 := hq.2; have h2 := HDP.out.2.2.1; omega)⟩)
        clear y0 cut1 cut2 hp7
        have hrn := HRW2.out
        have HEN := hid (hE2.out w7 HS7.out)
        obtain ⟨z, hz⟩ : ∃ z, z = s2.end_.1 := ⟨_, rfl⟩
        rw [← hz] at HEN hrn
        clear hz
        by_cases hz0 : z = 0
        · subst hz0
          rw [if_pos ⟨HA12.out, rfl⟩] at hrn
          have HRN := hid hrn
          clear hrn
          go_wp2_with fail
          refine Calls.mono HEN.out ?_
          rintro e w8 ⟨rfl, hf8⟩
          have HX8 := hid (ext_frm HX7.out hf8 HDP.out.2.1)
          have hp8 := (hf8.block p (Array.getElem?_eq_some_iff.1 HP7.out).1 HDP.out.1).trans HP7.out
          obtain ⟨⟨c0, c1, c2, c3, c4⟩, -, cl⟩ := vcells5 hp8
          have hsg := HS.out.ext HX8.out
          have g0 := hsg.2 0 (by decide)
          have g1 := hsg.2 1 (by decide)
          have g2 := hsg.2 2 (by decide)
          have g3 := hsg.2 3 (by decide)
          have g4 := hsg.2 4 (by decide)
          have hgl8 := hsg.1
          have hv8 := HV.out.below HX8.out
          have b0 := hv8.c0
          have b1 := hv8.c1
          have b2 := hv8.c2
          have b3 := hv8.c3
          have b4 := hv8.c4
          have HF8 := hid hf8
          clear hp8 hsg hf8 hv8
          go_wp2
          go_ret
          exact .inr ⟨_, HRN.out, rfl, w8, ca, cm, ck, HX8.out, (HEC.out.keep fun q hq hl => ⟨.inl hq.1, HF8.out.block q hl (fun h => by have h1 := hq.2; have h2 := HDP.out.2.1 q h; omega)⟩), rfl⟩
        rw [if_neg (fun h => hz0 h.2)] at hrn
        have HRN := hid hrn
        have hzb : (z != 0) = true := by simpa using hz0
        clear hrn hz0
        go_wp2_with fail
        refine Calls.mono HEN.out ?_
        rintro e w8 ⟨rfl, hf8⟩
        have HF8 := hid hf8
        clear hf8
        go_wp2
        go_ret
        exact .inl ⟨HRN.out, rfl, ext_frm HX7.out HF8.out HDP.out.2.1⟩
      have a2b : decide ((n1 : Int) ≤ zl) = false := by simpa using a2
      have hrn := HRW1.out
      rw [if_neg (fun h => a2 h.1.2)] at hrn
      have HRN := hid hrn
      clear a1 a2 hll hzl hrn HRW1
      go_wp2_with fail
      refine Calls.mono HLA.out ?_
      rintro e w5 ⟨rfl, qn, hw⟩
      have hx5 : Ext w4 w5 := by rw [hw]; exact ext_drewN _ _
      have HX5 := hid (HX4.out.trans' hx5)
      clear hw hx5 q2
      go_wp2
      go_ret
      exact .inl ⟨HRN.out, rfl, HX5.out⟩
    have a1b : decide (v.i < (n1 : Int)) = false := by simpa using a1
    have hrn := HRW1.out
    rw [if_neg (fun h => a1 h.1.1)] at hrn
    have HRN := hid hrn
    clear a1 hrn HRW1
    go_wp2
    go_ret
    exact .inl ⟨HRN.out, rfl, HX4.out⟩
  have hk3b : ((k : Int) == 3) = false := by simp; omega
  have hk3c : (k == 3) = false := by simpa using hk3
  have hrw := HRW.out
  rw [if_neg hk1, if_neg hk2, if_neg hk3] at hrw
  have HRN := hid hrw
  clear hrw HRW hk1 hk2 hk3
  go_wp2
  go_ret
  exact .inl ⟨HRN.out, rfl, HX3.out⟩
end Go.Proofs.YtikjckdoldiddaaGreatDoor
