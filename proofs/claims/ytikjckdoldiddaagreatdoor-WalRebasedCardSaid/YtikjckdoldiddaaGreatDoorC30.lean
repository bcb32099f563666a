/- The walk of Rebase. Printed by gen_wv6.py. -/
import Derived.Test.YtikjckdoldiddaaGreatDoorC28
namespace Go.Proofs.YtikjckdoldiddaaGreatDoor
open Go.RowKit Go.Maps
set_option linter.unusedVariables false
set_option linter.unusedSimpArgs false
attribute [local go_sem] bmax2 bmin2 bmax_two bmin_two

theorem RowE.nil_ (F : Nat → Prop) (B : Nat) (w : World) : RowE F B w (.slice none 0 0) [] :=
  ⟨[], rfl, World.ownsRow_nil _ _ _ _, (fun k h1 => absurd h1 (Nat.not_lt_zero _)), (fun k h => absurd h (Nat.not_lt_zero _))⟩
/-- A log is stored: its view, its segments. -/
def eight (w : World) (g : Nat) (v : Wv) (la : Option Addr) (ln lc : Nat) (a b c : Int) : World :=
  (((five w g v la ln lc).setCell ⟨g, 6, none⟩ (.int .i64 a)).setCell ⟨g, 7, none⟩ (.int .i64 b)).setCell ⟨g, 8, none⟩ (.int .i64 c)
theorem LoX.set8 {D G E : Nat → Prop} {w : World} {g dg : Nat} {v : Lo} (h : LoX D G w g dg v) (n : Wv) {a : Option Addr} {ln lc : Nat} (hes : EsF E w a ln lc n.l) (hD : ∀ q, D q → ¬ E q) (hE : ∀ q, E q → q ≠ g ∧ q < w.heap.size) (fr tt sz : Nat) :
    LoX D E (eight w g n a ln lc (fr : Int) (tt : Int) (sz : Int)) g dg ⟨⟨n, fr, tt, sz⟩, v.d⟩ ∧ Frm (fun q => q = g) w (eight w g n a ln lc (fr : Int) (tt : Int) (sz : Int)) ∧ (eight w g n a ln lc (fr : Int) (tt : Int) (sz : Int)).heap.size = w.heap.size := by
  obtain ⟨h1, h2, h3⟩ := h.set5 n hes hD hE
  obtain ⟨g1, g2, g3⟩ := h1.set3 fr tt sz
  exact ⟨g1, h2.trans g2 fun q hq => .inl hq, g3.trans h3⟩
theorem grow_grow {A : Nat → Prop} {w a b : World} (h1 : w.heap.size ≤ a.heap.size) (h2 : a.heap.size ≤ b.heap.size) (q : Nat) (h : Go.Proofs.YtikjckdoldiddaaGreatDoor.grow (Go.Proofs.YtikjckdoldiddaaGreatDoor.grow A w a) a b q) : Go.Proofs.YtikjckdoldiddaaGreatDoor.grow A w b q := by
  rcases h with (h | h) | h
  · exact .inl h
  · exact .inr ⟨h.1, by omega⟩
  exact .inr ⟨by omega, h.2⟩
theorem grow_lt {A : Nat → Prop} {w a : World} (h1 : w.heap.size ≤ a.heap.size) (hA : ∀ q, A q → q < w.heap.size) (q : Nat) (h : Go.Proofs.YtikjckdoldiddaaGreatDoor.grow A w a q) : q < a.heap.size := by
  rcases h with h | h
  · have := hA q h; omega
  exact h.2
/-- A disk's call on a log that has grown. -/
theorem LoAt.call {A D G : Nat → Prop} {w a b : World} {g dg : Nat} {s : Wl} {d : DS} (hA : ∀ q, A q → q < w.heap.size) (hf : Frm A w a) (h2 : LgB G a g (.pointer (some ⟨dg, 0, none⟩)) s.v s.fr s.tt s.sz) (h3 : ∀ q, D q → Go.Proofs.YtikjckdoldiddaaGreatDoor.grow A w a q ∧ q ≠ g ∧ ¬ G q) (h4 : ∀ q, G q → Go.Proofs.YtikjckdoldiddaaGreatDoor.grow A w a q ∧ q ≠ g) (h5 : Go.Proofs.YtikjckdoldiddaaGreatDoor.grow A w a g)
    {a1 : World} (hx : Ext a a1) (hp : DiskAt (Go.Proofs.YtikjckdoldiddaaGreatDoor.grow D a1 b) b dg d) (hf2 : Frm D a1 b) : LoAt (Go.Proofs.YtikjckdoldiddaaGreatDoor.grow A w b) b g dg ⟨s, d⟩ ∧ Frm A w b := by
  have z1 := hf.size
  have zx := hx.size
  have h6 := grow_lt z1 hA
  obtain ⟨k1, k2⟩ := LoAt.disk (w := a) (w1 := a1) (s := s) (h2.below hx) h3 h4 h5 h6 (Frm.of_ext hx _) hp hf2
  have z2 := k2.size
  exact ⟨k1.more (grow_grow z1 z2) (grow_lt (by omega) hA), hf.grow k2⟩
theorem LoAt.parts {A : Nat → Prop} {w : World} {g dg : Nat} {v : Lo} (h : LoAt A w g dg v) : ∃ D G, DiskAt D w dg v.d ∧ LgB G w g (.pointer (some ⟨dg, 0, none⟩)) v.s.v v.s.fr v.s.tt v.s.sz ∧ (∀ q, D q → A q ∧ q ≠ g ∧ ¬ G q) ∧ (∀ q, G q → A q ∧ q ≠ g) ∧ A g ∧ ∀ q, A q → q < w.heap.size := h
theorem dropL_cons (n : Nat) (r : List Nat) (d : DS) : dropL (n :: r) d = if (d.drop (fileW n)).1 = 0 then dropL r (d.drop (fileW n)).2 else d.drop (fileW n) := rfl
set_option maxRecDepth 100000 in
set_option maxHeartbeats 8000000 in
theorem LRebase_any {A : Nat → Prop} {w : World} {g dg : Nat} {v : Lo} {k0 m0 : Nat} (h : LoAt A w g dg v) (hf : v.Fit k0 m0) (hk0 : k0 ≤ 5000) (hm0 : m0 ≤ 500000000) (n t : Int) (hn : In64 n) (ht : In64 t) (hT : TabP w) (hpow : ¬ A powG) :
    Calls Tryz.prog 27 #[.pointer (some ⟨g, 0, none⟩), .int .i64 n, .int .i64 t] w (LoPost A g dg (v.rebase n t) w) := by
  have HLA := hid h
  obtain ⟨D, G, hX, hDA, hGA, hgA⟩ := LoX.of h
  have hAl := h.lt
  have HX0 := hid hX
  have HSUB := hid (show (∀ q, D q → A q) ∧ (∀ q, G q → A q) ∧ A g ∧ ∀ q, A q → q < w.heap.size from ⟨hDA, hGA, hgA, hAl⟩)
  have HOK := hid hf.ok
  have HACT := hid (show v.d.acts.length ≤ 50000000 by have := hf.acts; omega)
  have htt : v.s.tt ≤ 5000 := by have := hf.tt; omega
  have HFR := hid hf.fr
  have HT := hid hT
  have HPOW := hid hpow
  have HM := hid (lmade_any hX.2.1.cells.1)
  have hgl := hX.2.1.lt
  have HGW := hid hgl
  have hfi := hf.fine hm0
  have HVW := hid (fun W (hW : Ext w W) => (hX.2.1.below hW).vw hfi (by omega))
  have HN64 := hid (And.intro hn ht)
  obtain ⟨la, ln, lc, hobj, hes⟩ := hX.2.1
  obtain ⟨⟨c0, c1, c2, c3, c4, -⟩, -, -⟩ := cells9 hobj
  obtain ⟨vv, hvv⟩ : ∃ vv, vv = v.s.v := ⟨_, rfl⟩
  have HVV := hid hvv
  obtain ⟨nv, hnv⟩ : ∃ nv, nv = v.s.v.rebased n t := ⟨_, rfl⟩
  obtain ⟨r, hr⟩ : ∃ r, r = v.rebase n t := ⟨_, rfl⟩
  rw [← hr]
  have HR := hid (show r = if n < v.s.v.i ∨ withinS n 0 = false ∨ withinS t 0 = false then (51, v) else v.reb1 nv (v.d.write (fileW (v.s.tt + 1)) 0 nv.whole) by rw [hr, hnv]; rfl)
  rw [← hvv] at c0 c1 c2 c3 hobj hes hfi hnv HVW HR
  have hln := hes.1
  have HES := hid hes
  have HOBJ := hid hobj
  have HB := hid (show 0 ≤ vv.i ∧ vv.i ≤ 1099511627776 ∧ vv.l.length ≤ 10000000 from ⟨hfi.big.1, hfi.big.2, hfi.many⟩)
  have HFI := hid hfi
  have HLN := hid hln
  have HNV := hid hnv
  clear h hf hk0 hm0 hn ht hT hpow hX hDA hGA hgA hAl hobj hes hvv hnv hr hln hfi
  obtain ⟨vi, hvi⟩ : ∃ vi, vi = vv.i := ⟨_, rfl⟩
  rw [← hvi] at c2 HR
  have HVI := hid hvi
  have HW1 := hid (fun W => within_any W n 0)
  have HW2 := hid (fun W => within_any W t 0)
  have START := hid (And.intro c2 (And.intro c4 (And.intro c0 c1)))
  clear c0 c1 c3 c4 hvi
  by_cases a1 : n < vi
  · have a1b : decide (n < vi) = true := by simpa using a1
    have HR1 := hid (HR.out.trans (if_pos (.inl a1)))
    clear a1
    go_enter Tryz.func27, Tryz.ntmps27
    go_wp2_with fail
    refine Calls.mono HM.out ?_
    rintro e w ⟨rfl, rfl⟩
    go_wp2
    go_ret
    rw [HR1.out]
    exact HLA.out.same (Below.refl _ _) 51
  have a1b : decide (n < vi) = false := by simpa using a1
  cases hb2 : withinS n 0 with
  | false =>
    have HR1 := hid (HR.out.trans (if_pos (.inr (.inl hb2))))
    rw [hb2] at HW1
    clear a1 hb2
    go_enter Tryz.func27, Tryz.ntmps27
    go_wp2_with fail
    refine Calls.mono HM.out ?_
    rintro e w ⟨rfl, rfl⟩
    go_wp2_with fail
    refine Calls.mono (HW1.out w) ?_
    rintro e w ⟨rfl, rfl⟩
    go_wp2
    go_ret
    rw [HR1.out]
    exact HLA.out.same (Below.refl _ _) 51
  | true =>
  cases hb3 : withinS t 0 with
  | false =>
    have HR1 := hid (HR.out.trans (if_pos (.inr (.inr hb3))))
    rw [hb2] at HW1
    rw [hb3] at HW2
    clear a1 hb2 hb3
    go_enter Tryz.func27, Tryz.ntmps27
    go_wp2_with fail
    refine Calls.mono HM.out ?_
    rintro e w ⟨rfl, rfl⟩
    go_wp2_with fail
    refine Calls.mono (HW1.out w) ?_
    rintro e w ⟨rfl, rfl⟩
    go_wp2_with fail
    refine Calls.mono (HW2.out w) ?_
    rintro e w ⟨rfl, rfl⟩
    go_wp2
    go_ret
    rw [HR1.out]
    exact HLA.out.same (Below.refl _ _) 51
  | true =>
  have HR1 := hid (HR.out.trans (if_neg (fun h => by rcases h with h | h | h; exact a1 h; rw [hb2] at h; cases h; rw [hb3] at h; cases h)))
  have hbn := within_big hb2
  have HNF := hid (show nv.Fine 100000000 ∧ ∀ x ∈ nv.l, x.d.length ≤ 4096 from by
    have hlen : ∀ x ∈ nv.l, x.d.length ≤ 4096 := fun x hx => by
      rw [HNV.out] at hx
      have hx : x ∈ (if vv.at_ n = t ∧ n ≤ vv.last then vv.l.drop (n - vv.i).toNat else []) := hx
      split at hx
      · exact HFI.out.len x (List.mem_of_mem_drop hx)
      cases hx
    have e0 : nv.ht = vv.ht ∧ nv.hv = vv.hv ∧ nv.i = n ∧ nv.t = t := by rw [HNV.out]; exact ⟨rfl, rfl, rfl, rfl⟩
    refine ⟨⟨?_, ?_, ?_, hlen⟩, hlen⟩
    · rw [e0.1, e0.2.1, e0.2.2.1, e0.2.2.2]
      exact ⟨HFI.out.i64.1, HFI.out.i64.2.1, HN64.out.1, HN64.out.2⟩
    · rw [e0.2.2.1]; exact hbn
    rw [HNV.out]
    show (if vv.at_ n = t ∧ n ≤ vv.last then vv.l.drop (n - vv.i).toNat else []).length ≤ _
    have := HB.out.2.2
    split
    · rw [List.length_drop]; omega
    simp)
  have HNC := hid (show nv.ht = vv.ht ∧ nv.hv = vv.hv ∧ nv.i = n ∧ nv.t = t ∧ nv.l = if vv.at_ n = t ∧ n ≤ vv.last then vv.l.drop (n - vv.i).toNat else [] by rw [HNV.out]; exact ⟨rfl, rfl, rfl, rfl, rfl⟩)
  rw [hb2] at HW1
  rw [hb3] at HW2
  have HIN := hid (show vi ≤ n ∧ n ≤ 1099511627776 from ⟨by omega, hbn.2⟩)
  have hx1 := ext_alloc w (.cells #[.int .i64 vv.ht, .int .i64 vv.hv, .int .i64 n, .int .i64 t, .slice none 0 0] 62)
  have hn1 := heap_alloc_new w (.cells #[.int .i64 vv.ht, .int .i64 vv.hv, .int .i64 n, .int .i64 t, .slice none 0 0] 62)
  have HX1 := hid hx1
  have HN1 := hid hn1
  clear a1 hb2 hb3 hbn hx1 hn1 HNV HR
  go_enter Tryz.func27, Tryz.ntmps27
  go_wp2_with fail
  refine Calls.mono HM.out ?_
  rintro e w ⟨rfl, rfl⟩
  go_wp2_with fail
  refine Calls.mono (HW1.out w) ?_
  rintro e w ⟨rfl, rfl⟩
  go_wp2_with fail
  refine Calls.mono (HW2.out w) ?_
  rintro e w ⟨rfl, rfl⟩
  obtain ⟨-, -, c0, c1⟩ := START.out
  go_wp2_with fail
  generalize w.alloc (.cells #[.int .i64 vv.ht, .int .i64 vv.hv, .int .i64 n, .int .i64 t, .slice none 0 0] 62) = w1 at *
  obtain ⟨p, hp⟩ : ∃ p, p = w.heap.size := ⟨_, rfl⟩
  rw [← hp] at HN1 ⊢
  have HP := hid (show w.heap.size ≤ p ∧ p < w1.heap.size ∧ g ≠ p from ⟨by omega, (Array.getElem?_eq_some_iff.1 HN1.out).1, by have := HGW.out; omega⟩)
  obtain ⟨la1, ln1, lc1, hvw1, -⟩ := HVW.out w1 HX1.out
  have HAT := hid (at_any hvw1 n HN64.out.1)
  obtain ⟨at1, hat⟩ : ∃ x, x = vv.at_ n := ⟨_, rfl⟩
  rw [← hat] at HAT
  have HATE := hid hat
  clear hp c0 c1 c2 hvw1 hat HW1 HW2 HM hgl
  refine Calls.mono HAT.out ?_
  rintro e w2 ⟨rfl, qd, hw2⟩
  have hx2 : Ext w1 w2 := by rw [hw2]; exact ext_drewN _ _
  have HX12 := hid hx2
  have HX2 := hid (HX1.out.trans' hx2)
  have HP2 := hid ((hx2.block p HP.out.2.1).trans HN1.out)
  clear hw2 hx2 HAT HN1
  obtain ⟨zl, hzl⟩ : ∃ zl, zl = vv.last := ⟨_, rfl⟩
  have HZL := hid hzl
  obtain ⟨la2, ln2, lc2, hvw2, -⟩ := HVW.out w2 HX2.out
  have HLA2 := hid (last_any hvw2)
  rw [← hzl] at HLA2
  clear hzl hvw2
  by_cases k1 : at1 = t
  · have k1b : (at1 == t) = true := by simpa using k1
    by_cases k2 : n ≤ zl
    · have k2b : decide (n ≤ zl) = true := by simpa using k2
      have HYES := hid (show vv.at_ n = t ∧ n ≤ vv.last from ⟨by rw [← HATE.out]; exact k1, by rw [← HZL.out]; exact k2⟩)
      have hlast : zl = vv.i + (vv.l.length : Int) := HZL.out
      obtain ⟨u, hu⟩ : ∃ u : Nat, n - vi = (u : Int) := ⟨(n - vi).toNat, by have := HIN.out; omega⟩
      have HU := hid (show u ≤ vv.l.length ∧ n - vv.i = (u : Int) from ⟨by have := HVI.out; omega, by rw [← HVI.out]; exact hu⟩)
      have hw0 : IntKind.i64.wrap (n - vi) = (u : Int) := by rw [hu]; have := HU.out.1; have := HB.out; exact IntWalk.i64_in _ ⟨by omega, by omega⟩
      clear k1 k2 hlast hu
      go_wp2_with fail
      refine Calls.mono HLA2.out ?_
      rintro e w3 ⟨rfl, qd3, hw3⟩
      have hx3 : Ext w2 w3 := by rw [hw3]; exact ext_drewN _ _
      have HX3 := hid (HX2.out.trans' hx3)
      have HPW := hid ((hx3.block p (Array.getElem?_eq_some_iff.1 HP2.out).1).trans HP2.out)
      have HXB := hid (Nat.le_trans HX12.out.size hx3.size)
      have hes3 := HES.out.below HX3.out
      obtain ⟨ca, cm, ck, cut1, cut2, hcut⟩ := ecut_l hes3 (u : Int) (by omega) (by have h1 := hes3.1; have h2 := HU.out.1; omega)
      rw [Int.toNat_natCast] at hcut
      have HCLN := hid (fun W (hW : Ext w3 W) => cloneE_row (hcut.below hW))
      obtain ⟨⟨-, -, z2, -, z4, -⟩, -, -⟩ := cells9 ((HX3.out.block g HGW.out).trans HOBJ.out)
      rw [← HVI.out] at z2
      have hgl3 := Nat.lt_of_lt_of_le HGW.out HX3.out.size
      have hulc : (u : Int) ≤ (lc : Int) := by have h1 := hes3.2.1; have h2 := hes3.1; have := HU.out.1; omega
      have huln : (u : Int) ≤ (ln : Int) := by have h2 := hes3.1; have := HU.out.1; omega
      have hu0 : (0 : Int) ≤ (u : Int) := by omega
      have HXD := hid (ext_drew w3)
      obtain ⟨⟨d0, d1, d2, d3, d4⟩, dfz, dl⟩ := vcells5 HPW.out
      have f4 := dfz 4
      have HPLW := hid dl
      clear hw3 hx3 hes3 hcut dfz HLA2 HP2
      go_wp2
      have y0 : w3.drew.heap[g]? = w3.heap[g]? := rfl
      refine wp_region_held_drew (S := fun W => W.heap[g]? = w3.heap[g]?) (by kernel_rfl) y0 (fun hH => ?_)
      obtain ⟨wd, hwd⟩ : ∃ wd, wd = w3.drew := ⟨_, rfl⟩
      rw [← hwd] at y0 HXD ⊢
      have HC := hid (fun (W : World) (hW : W.heap[g]? = w3.heap[g]?) => show W.cell? ⟨g, 2, none⟩ = some (.int .i64 vi) ∧ W.cell? ⟨g, 4, none⟩ = some (.slice la ln lc) from ⟨(World.cell?_of_block (w := w3) (a := ⟨g, 2, none⟩) hW).trans z2, (World.cell?_of_block (w := w3) (a := ⟨g, 4, none⟩) hW).trans z4⟩)
      have HGL3 := hid hgl3
      clear hH hwd d0 d1 d2 d3 d4 f4 dl z2 z4 hgl3
      refine held_run (i := 0) (v := .pointer (some ⟨g, 0, none⟩)) rfl (by kernel_rfl) (by kernel_rfl) (by kernel_rfl) (fun _ _ _ h => h) (by rfl) y0 (fun W hW => ?_) ?_
      · (clear hW; go_simp)
      try simp only [Act.put, List.setIfInBounds_toArray, List.set_cons_zero, List.set_cons_succ]
      refine held_run (i := 1) (v := .pointer (some ⟨g, 0, none⟩)) rfl (by kernel_rfl) (by kernel_rfl) (by kernel_rfl) (fun _ _ _ h => h) (by rfl) y0 (fun W hW => ?_) ?_
      · (clear hW; go_simp)
      try simp only [Act.put, List.setIfInBounds_toArray, List.set_cons_zero, List.set_cons_succ]
      refine held_run (i := 2) (v := .pointer (some ⟨g, 0, none⟩)) rfl (by kernel_rfl) (by kernel_rfl) (by kernel_rfl) (fun _ _ _ h => h) (by rfl) y0 (fun W hW => ?_) ?_
      · (clear hW; go_simp)
      try simp only [Act.put, List.setIfInBounds_toArray, List.set_cons_zero, List.set_cons_succ]
      refine held_run (i := 3) (v := .pointer (some ⟨g, 4, none⟩)) rfl (by kernel_rfl) (by kernel_rfl) (by kernel_rfl) (fun _ _ _ h => h) (by rfl) y0 (fun W hW => ?_) ?_
      · (clear hW; go_simp)
      try simp only [Act.put, List.setIfInBounds_toArray, List.set_cons_zero, List.set_cons_succ]
      refine held_run (i := 4) (v := .slice la ln lc) rfl (by kernel_rfl) (by kernel_rfl) (by kernel_rfl) (fun _ _ _ h => h) (by rfl) y0 (fun W hW => ?_) ?_
      · (obtain ⟨r0, r1⟩ := HC.out W hW; clear hW; go_simp)
      try simp only [Act.put, List.setIfInBounds_toArray, List.set_cons_zero, List.set_cons_succ]
      refine held_run (i := 5) (v := .int .i64 n) rfl (by kernel_rfl) (by kernel_rfl) (by kernel_rfl) (fun _ _ _ h => h) (by rfl) y0 (fun W hW => ?_) ?_
      · (clear hW; go_simp)
      try simp only [Act.put, List.setIfInBounds_toArray, List.set_cons_zero, List.set_cons_succ]
      refine held_run (i := 6) (v := .pointer (some ⟨g, 0, none⟩)) rfl (by kernel_rfl) (by kernel_rfl) (by kernel_rfl) (fun _ _ _ h => h) (by rfl) y0 (fun W hW => ?_) ?_
      · (clear hW; go_simp)
      try simp only [Act.put, List.setIfInBounds_toArray, List.set_cons_zero, List.set_cons_succ]
      refine held_run (i := 7) (v := .pointer (some ⟨g, 0, none⟩)) rfl (by kernel_rfl) (by kernel_rfl) (by kernel_rfl) (fun _ _ _ h => h) (by rfl) y0 (fun W hW => ?_) ?_
      · (clear hW; go_simp)
      try simp only [Act.put, List.setIfInBounds_toArray, List.set_cons_zero, List.set_cons_succ]
      refine held_run (i := 8) (v := .pointer (some ⟨g, 0, none⟩)) rfl (by kernel_rfl) (by kernel_rfl) (by kernel_rfl) (fun _ _ _ h => h) (by rfl) y0 (fun W hW => ?_) ?_
      · (clear hW; go_simp)
      try simp only [Act.put, List.setIfInBounds_toArray, List.set_cons_zero, List.set_cons_succ]
      refine held_run (i := 9) (v := .pointer (some ⟨g, 2, none⟩)) rfl (by kernel_rfl) (by kernel_rfl) (by kernel_rfl) (fun _ _ _ h => h) (by rfl) y0 (fun W hW => ?_) ?_
      · (clear hW; go_simp)
      try simp only [Act.put, List.setIfInBounds_toArray, List.set_cons_zero, List.set_cons_succ]
      refine held_run (i := 10) (v := .int .i64 vi) rfl (by kernel_rfl) (by kernel_rfl) (by kernel_rfl) (fun _ _ _ h => h) (by rfl) y0 (fun W hW => ?_) ?_
      · (obtain ⟨r0, r1⟩ := HC.out W hW; clear hW; go_simp)
      try simp only [Act.put, List.setIfInBounds_toArray, List.set_cons_zero, List.set_cons_succ]
      refine held_run (i := 11) (v := .int .i64 (u : Int)) rfl (by kernel_rfl) (by kernel_rfl) (by kernel_rfl) (fun _ _ _ h => h) (by rfl) y0 (fun W hW => ?_) ?_
      · (clear hW; go_simp)
      try simp only [Act.put, List.setIfInBounds_toArray, List.set_cons_zero, List.set_cons_succ]
      refine held_run (i := 12) (v := .slice ca cm ck) rfl (by kernel_rfl) (by kernel_rfl) (by kernel_rfl) (fun _ _ _ h => h) (by rfl) y0 (fun W hW => ?_) ?_
      · (clear hW; go_simp)
      try simp only [Act.put, List.setIfInBounds_toArray, List.set_cons_zero, List.set_cons_succ]
      refine wpAnyH_ready (rs := [13]) (by kernel_rfl) (by simp) ?_
      refine held_cons (i := 13) rfl (fun K hK => ?_)
      go_simp
      go_at_call 52
      refine Calls.mono (HCLN.out wd HXD.out) ?_
      rintro e wc ⟨vr, rfl, hrow, hxc⟩
      have y1 := (hxc.block g (Nat.lt_of_lt_of_le HGL3.out HXD.out.size)).trans y0
      obtain ⟨ra, rn, rc, hvr, hrn⟩ : ∃ a m c, vr = .slice a m c ∧ m = (vv.l.drop u).length := (by obtain ⟨a, c, h⟩ := hrow.slice_; exact ⟨a, _, c, h, rfl⟩)
      subst hvr
      have HROW := hid hrow
      have HRN := hid hrn
      have hxc3 := HXD.out.trans' hxc
      have HXC := hid hxc3
      have HXDC := hid hxc.size
      have hpc := (hxc3.block p HPLW.out).trans HPW.out
      have HPC := hid hpc
      clear hrow hrn hxc hxc3 hpc
      dsimp only
      refine hK.out _ _ y1 (fun hH => ?_)
      clear hK K y0 hH
      have y0 := y1
      clear y1
      try simp only [Act.put, List.setIfInBounds_toArray, List.set_cons_zero, List.set_cons_succ]
      refine held_run (i := 14) (v := .pointer (some ⟨p, 4, none⟩)) rfl (by kernel_rfl) (by kernel_rfl) (by kernel_rfl) (fun _ _ _ h => h) (by rfl) y0 (fun W hW => ?_) ?_
      · (clear hW; go_simp)
      try simp only [Act.put, List.setIfInBounds_toArray, List.set_cons_zero, List.set_cons_succ]
      refine wpAnyH_ready (rs := [15]) (by kernel_rfl) (by simp) ?_
      refine held_cons (i := 15) rfl (fun K hK => ?_)
      obtain ⟨⟨x0, x1, x2, x3, x4⟩, xfz, xl⟩ := vcells5 HPC.out
      have xf4 := xfz 4
      have y1 : (wc.setCell ⟨p, 4, none⟩ (.slice ra rn rc)).heap[g]? = w3.heap[g]? := (heap_setCell_other wc _ g _ (by show g ≠ p; exact HP.out.2.2)).trans y0
      clear xfz
      go_simp
      clear x0 x1 x2 x3 x4 xf4 xl
      refine hK.out _ _ y1 (fun hH => ?_)
      clear hK K y0 hH
      have y0 := y1
      clear y1
      try simp only [Act.put, List.setIfInBounds_toArray, List.set_cons_zero, List.set_cons_succ]
      refine wpAnyH_done (by kernel_rfl) ?_ _
      clear y0 hulc huln hu0
      have HS4 := hid ((SetG.start HPC.out).step 4 (.slice ra rn rc))
      generalize wc.setCell ⟨p, 4, none⟩ (.slice ra rn rc) = w4 at *
      obtain ⟨B, hB⟩ : ∃ B, B = wd.heap.size := ⟨_, rfl⟩
      have HBX := hid (show w.heap.size ≤ B ∧ p < B ∧ B ≤ w4.heap.size from by
        have h1 := HX3.out.size
        have h2 := HXD.out.size
        have h3 := HXDC.out
        have h4 := HS4.out.size
        have h5 := HPLW.out
        exact ⟨by omega, by omega, by omega⟩)
      have HXW := hid (ext_frm (HX3.out.trans' HXC.out) HS4.out.frm fun q hq => by rw [show q = p from hq]; exact HP.out.1)
      have HNX := hid (show NextAt (fun q => G q ∨ B ≤ q) B w4 p nv from by
        obtain ⟨e1, e2, e3, e4, e5⟩ := HNC.out
        rw [if_pos HYES.out, HU.out.2, Int.toNat_natCast] at e5
        refine ⟨ra, rc, ?_, ?_⟩
        · rw [e1, e2, e3, e4, e5, ← HRN.out]; have h := HS4.out.obj; simpa using h
        rw [e5, ← HRN.out]
        have hrow := HROW.out
        rw [← hB] at hrow
        refine hrow.keep (fun q h1 h2 => HS4.out.frm.block q h2 (by show ¬ q = p; have := HBX.out.2.1; omega)) fun q h1 h2 => ⟨.inl h1.1, HS4.out.frm.block q h2 ?_⟩
        show ¬ q = p
        have h3 := (HX0.out.2.2.2 q h1.1).2
        have h4 := HP.out.1
        omega)
      clear hB HROW HRN HPC HS4 HXC HXDC HXD HPW HXB HX12 hw0 HC HGL3
      obtain ⟨va, vc, hvw⟩ := HNX.out.vw HNF.out.1
      have HWH := hid (whole_any hvw HNF.out.2)
      have hwl : nv.whole.length ≤ 500000000000 := by have h1 := wholeB_le nv HNF.out.2; have := HNF.out.1.many; omega
      obtain ⟨WB, hWB⟩ : ∃ WB, WB = nv.whole := ⟨_, rfl⟩
      rw [← hWB] at HWH hwl HR1
      have HWB := hid hWB
      have HWL := hid hwl
      clear hvw hWB hwl
      go_wp2_with fail
      refine Calls.mono HWH.out ?_
      rintro e w5 ⟨q5, n5, c5, rfl, ho5, hx5⟩
      have HX5 := hid (HXW.out.trans' hx5)
      have HBY5 := hid (ho5.any (by have h1 := ho5.1; have h2 := HWL.out; omega))
      have HNX5 := hid (HNX.out.ext hx5)
      have HB5 := hid (Nat.le_trans HBX.out.2.2 hx5.size)
      obtain ⟨fr, hfr⟩ : ∃ x, x = v.s.fr := ⟨_, rfl⟩
      obtain ⟨tt, htt2⟩ : ∃ x, x = v.s.tt := ⟨_, rfl⟩
      rw [← htt2] at htt
      have HCC := hid (fun W' (hW : Ext w5 W') => show W'.cell? ⟨g, 5, none⟩ = some (.pointer (some ⟨dg, 0, none⟩)) ∧ W'.cell? ⟨g, 6, none⟩ = some (.int .i64 (fr : Int)) ∧ W'.cell? ⟨g, 7, none⟩ = some (.int .i64 (tt : Int)) from by
        obtain ⟨z5, z6, z7, -⟩ := (HX0.out.ext (HX5.out.trans' hW)).2.1.cells
        rw [hfr, htt2]
        exact ⟨z5, z6, z7⟩)
      have HFT := hid (And.intro hfr htt2)
      clear ho5 hx5 HWH HNX hfr htt2
      go_wp2
      have y0 : Ext w5 w5.drew := ext_drew w5
      refine wp_region_held_drew (S := fun W' => Ext w5 W') (by kernel_rfl) y0 (fun hH => ?_)
      clear hH
      generalize w5.drew = w6 at *
      refine held_run (i := 0) (v := .pointer (some ⟨g, 0, none⟩)) rfl (by kernel_rfl) (by kernel_rfl) (by kernel_rfl) (fun _ _ _ h => h) (by rfl) y0 (fun W hW => ?_) ?_
      · (clear hW; go_simp)
      try simp only [Act.put, List.setIfInBounds_toArray, List.set_cons_zero, List.set_cons_succ]
      refine held_run (i := 1) (v := .pointer (some ⟨g, 0, none⟩)) rfl (by kernel_rfl) (by kernel_rfl) (by kernel_rfl) (fun _ _ _ h => h) (by rfl) y0 (fun W hW => ?_) ?_
      · (clear hW; go_simp)
      try simp only [Act.put, List.setIfInBounds_toArray, List.set_cons_zero, List.set_cons_succ]
      refine held_run (i := 2) (v := .pointer (some ⟨g, 6, none⟩)) rfl (by kernel_rfl) (by kernel_rfl) (by kernel_rfl) (fun _ _ _ h => h) (by rfl) y0 (fun W hW => ?_) ?_
      · (clear hW; go_simp)
      try simp only [Act.put, List.setIfInBounds_toArray, List.set_cons_zero, List.set_cons_succ]
      refine held_run (i := 3) (v := .int .i64 (fr : Int)) rfl (by kernel_rfl) (by kernel_rfl) (by kernel_rfl) (fun _ _ _ h => h) (by rfl) y0 (fun W hW => ?_) ?_
      · (obtain ⟨z5, z6, z7⟩ := HCC.out W hW; clear hW; go_simp)
      try simp only [Act.put, List.setIfInBounds_toArray, List.set_cons_zero, List.set_cons_succ]
      refine held_run (i := 4) (v := .pointer (some ⟨g, 0, none⟩)) rfl (by kernel_rfl) (by kernel_rfl) (by kernel_rfl) (fun _ _ _ h => h) (by rfl) y0 (fun W hW => ?_) ?_
      · (clear hW; go_simp)
      try simp only [Act.put, List.setIfInBounds_toArray, List.set_cons_zero, List.set_cons_succ]
      refine held_run (i := 5) (v := .pointer (some ⟨g, 0, none⟩)) rfl (by kernel_rfl) (by kernel_rfl) (by kernel_rfl) (fun _ _ _ h => h) (by rfl) y0 (fun W hW => ?_) ?_
      · (clear hW; go_simp)
      try simp only [Act.put, List.setIfInBounds_toArray, List.set_cons_zero, List.set_cons_succ]
      refine held_run (i := 6) (v := .pointer (some ⟨g, 7, none⟩)) rfl (by kernel_rfl) (by kernel_rfl) (by kernel_rfl) (fun _ _ _ h => h) (by rfl) y0 (fun W hW => ?_) ?_
      · (clear hW; go_simp)
      try simp only [Act.put, List.setIfInBounds_toArray, List.set_cons_zero, List.set_cons_succ]
      refine held_run (i := 7) (v := .int .i64 (tt : Int)) rfl (by kernel_rfl) (by kernel_rfl) (by kernel_rfl) (fun _ _ _ h => h) (by rfl) y0 (fun W hW => ?_) ?_
      · (obtain ⟨z5, z6, z7⟩ := HCC.out W hW; clear hW; go_simp)
      try simp only [Act.put, List.setIfInBounds_toArray, List.set_cons_zero, List.set_cons_succ]
      refine held_run (i := 8) (v := .int .i64 (fr : Int)) rfl (by kernel_rfl) (by kernel_rfl) (by kernel_rfl) (fun _ _ _ h => h) (by rfl) y0 (fun W hW => ?_) ?_
      · (clear hW; go_simp)
      try simp only [Act.put, List.setIfInBounds_toArray, List.set_cons_zero, List.set_cons_succ]
      refine held_run (i := 9) (v := .int .i64 (tt : Int)) rfl (by kernel_rfl) (by kernel_rfl) (by kernel_rfl) (fun _ _ _ h => h) (by rfl) y0 (fun W hW => ?_) ?_
      · (clear hW; go_simp)
      try simp only [Act.put, List.setIfInBounds_toArray, List.set_cons_zero, List.set_cons_succ]
      refine wpAnyH_done (by kernel_rfl) ?_ _
      have HY6 := hid y0
      have HX6 := hid (HX5.out.trans' y0)
      clear y0
      have ht2l : tt + 1 < 1000000000000 := by omega
      have hw1 : IntKind.i64.wrap ((tt : Int) + 1) = ((tt + 1 : Nat) : Int) := by rw [IntWalk.i64_in _ ⟨by omega, by omega⟩]; omega
      have HWR := hid (fun W' (hW : Ext w6 W') => Write_at (HX0.out.1.below (HX6.out.trans' hW)) HOK.out (by have := HACT.out; omega) (fileW (tt + 1)) (by rw [fileW_len ht2l]; decide) 0 ⟨by decide, by decide⟩ (HBY5.out.below (HY6.out.trans' hW)))
      have HNA := hid (fun W' (hW : Ext w6 W') => nameW_any (HT.out.ext (HX6.out.trans' hW)) ht2l)
      have hr1 := HR1.out
      rw [← HFT.out.2] at hr1
      have hrok := HOK.out.write (fileW (tt + 1)) 0 WB
      have hrac := v.d.write_acts1 (fileW (tt + 1)) 0 WB
      obtain ⟨rw, hrw⟩ : ∃ x, x = v.d.write (fileW (tt + 1)) 0 WB := ⟨_, rfl⟩
      rw [← hrw] at HWR hr1 hrok hrac
      obtain ⟨f, hf⟩ : ∃ f, f = fileW (tt + 1) := ⟨_, rfl⟩
      rw [← hf] at HWR HNA
      obtain ⟨r1, r2⟩ := rw
      dsimp only at hrok hrac
      have HRO := hid (show r2.Ok ∧ r2.acts.length ≤ 50000001 from ⟨hrok, by have := HACT.out; omega⟩)
      have HR2 := hid hr1
      clear hr1 hrok hrac hrw hf HR1
      go_wp2
      have y0 : Ext w5 w6.drew := HY6.out.trans' (ext_drew w6)
      refine wp_region_held_drew (S := fun W' => Frm D w5 W') (by kernel_rfl) (Frm.of_ext y0 _) (fun hH => ?_)
      clear hH
      have HCD := hid (fun W' (hW : Frm D w5 W') => show W'.cell? ⟨g, 5, none⟩ = some (.pointer (some ⟨dg, 0, none⟩)) from
        (hW.cell (p := ⟨g, 5, none⟩) (Nat.lt_of_lt_of_le HGW.out HX5.out.size) fun h => (HX0.out.2.2.1 g h).1 rfl).trans (HCC.out w5 (Below.refl _ _)).1)
      have y0 : Frm D w5 w6.drew := Frm.of_ext y0 _
      refine held_run (i := 0) (v := .pointer (some ⟨g, 0, none⟩)) rfl (by kernel_rfl) (by kernel_rfl) (by kernel_rfl) (fun _ _ _ h => h) (by rfl) y0 (fun W hW => ?_) ?_
      · (clear hW; go_simp)
      try simp only [Act.put, List.setIfInBounds_toArray, List.set_cons_zero, List.set_cons_succ]
      refine held_run (i := 1) (v := .pointer (some ⟨g, 0, none⟩)) rfl (by kernel_rfl) (by kernel_rfl) (by kernel_rfl) (fun _ _ _ h => h) (by rfl) y0 (fun W hW => ?_) ?_
      · (clear hW; go_simp)
      try simp only [Act.put, List.setIfInBounds_toArray, List.set_cons_zero, List.set_cons_succ]
      refine held_run (i := 2) (v := .pointer (some ⟨g, 5, none⟩)) rfl (by kernel_rfl) (by kernel_rfl) (by kernel_rfl) (fun _ _ _ h => h) (by rfl) y0 (fun W hW => ?_) ?_
      · (clear hW; go_simp)
      try simp only [Act.put, List.setIfInBounds_toArray, List.set_cons_zero, List.set_cons_succ]
      refine held_run (i := 3) (v := .pointer (some ⟨dg, 0, none⟩)) rfl (by kernel_rfl) (by kernel_rfl) (by kernel_rfl) (fun _ _ _ h => h) (by rfl) y0 (fun W hW => ?_) ?_
      · (have z5 := HCD.out W hW; clear hW; go_simp)
      try simp only [Act.put, List.setIfInBounds_toArray, List.set_cons_zero, List.set_cons_succ]
      refine held_run (i := 4) (v := .int .i64 (tt : Int)) rfl (by kernel_rfl) (by kernel_rfl) (by kernel_rfl) (fun _ _ _ h => h) (by rfl) y0 (fun W hW => ?_) ?_
      · (clear hW; go_simp)
      try simp only [Act.put, List.setIfInBounds_toArray, List.set_cons_zero, List.set_cons_succ]
      refine held_run (i := 5) (v := .int .i64 ((tt + 1 : Nat) : Int)) rfl (by kernel_rfl) (by kernel_rfl) (by kernel_rfl) (fun _ _ _ h => h) (by rfl) y0 (fun W hW => ?_) ?_
      · (clear hW; go_simp)
      try simp only [Act.put, List.setIfInBounds_toArray, List.set_cons_zero, List.set_cons_succ]
      refine held_run (i := 7) (v := .slice (some ⟨q5, 0, none⟩) n5 c5) rfl (by kernel_rfl) (by kernel_rfl) (by kernel_rfl) (fun _ _ _ h => h) (by rfl) y0 (fun W hW => ?_) ?_
      · (clear hW; go_simp)
      try simp only [Act.put, List.setIfInBounds_toArray, List.set_cons_zero, List.set_cons_succ]
      refine wpAnyH_ready (rs := [6]) (by kernel_rfl) (by simp) ?_
      refine held_cons (i := 6) rfl (fun K hK => ?_)
      go_simp
      go_at_call 61
      refine Calls.mono (HNA.out _ (ext_drew w6)) ?_
      rintro e w7 ⟨rfl, hx1⟩
      have y1 : Frm D w5 w7 := Frm.of_ext (HY6.out.trans' ((ext_drew w6).trans' hx1)) _
      have HX7 := hid ((ext_drew w6).trans' hx1)
      clear hx1
      dsimp only
      refine hK.out _ _ y1 (fun hH => ?_)
      clear hK K y0 hH
      have y0 := y1
      clear y1
      try simp only [Act.put, List.setIfInBounds_toArray, List.set_cons_zero, List.set_cons_succ]
      refine wpAnyH_ready (rs := [8]) (by kernel_rfl) (by simp) ?_
      refine held_cons (i := 8) rfl (fun K hK => ?_)
      go_simp
      go_at_call 77
      refine Calls.mono (HWR.out _ HX7.out) ?_
      rintro e w8 hE
      have HX57 := hid (HX6.out.trans' HX7.out)
      have HLN8 := hid (LoX.disk (w := w7) (w1 := w7) (s := v.s) (d := r2) (HX0.out.ext HX57.out).2.1 HX0.out.2.2.1 (HX0.out.ext HX57.out).2.2.2 (Nat.lt_of_lt_of_le HGW.out HX57.out.size) (Below.refl _ _) hE.2.1 hE.2.2)
      have HF78 := hid hE.2.2
      have y1 : Frm D w5 w8 := Frm.after_ext (HY6.out.trans' HX7.out) hE.2.2
      obtain ⟨rfl, -, -⟩ := hE
      dsimp only at *
      refine hK.out _ _ y1 (fun hH => ?_)
      clear hK K y0 hH
      have y0 := y1
      clear y1
      try simp only [Act.put, List.setIfInBounds_toArray, List.set_cons_zero, List.set_cons_succ]
      refine held_run (i := 9) (v := .int .i64 r1) rfl (by kernel_rfl) (by kernel_rfl) (by kernel_rfl) (fun _ _ _ h => h) (by rfl) y0 (fun W hW => ?_) ?_
      · (clear hW; go_simp)
      try simp only [Act.put, List.setIfInBounds_toArray, List.set_cons_zero, List.set_cons_succ]
      refine wpAnyH_done (by kernel_rfl) ?_ _
      have HY8 := hid y0
      clear y0
      by_cases hr1 : r1 = 0
      · subst hr1
        have hev := HR2.out
        unfold Lo.reb1 at hev
        rw [if_pos rfl] at hev
        dsimp only at hev
        have HR3 := hid hev
        clear hev HR2
        obtain ⟨⟨D8, hD8, hl8⟩, hfw⟩ := HLN8.out
        have HD8 := hid hD8
        have HL8 := hid hl8
        have HFW := hid hfw
        have hz57 := HX57.out.size
        obtain ⟨pa, pc, hpo, hrow⟩ := HNX5.out
        obtain ⟨vn, hvn⟩ : ∃ vn, vn = nv.l.length := ⟨_, rfl⟩
        rw [← hvn] at hpo hrow
        have HPD := hid (show ¬ D p from fun h => by have := HSUB.out.2.2.2 p (HSUB.out.1 p h); have := HP.out.1; omega)
        have hp8 := (HY8.out.block p (Array.getElem?_eq_some_iff.1 hpo).1 HPD.out).trans hpo
        obtain ⟨⟨x0, x1, x2, x3, x4⟩, -, xl⟩ := vcells5 hp8
        have hm := HNF.out.1.many
        have hes := (hrow.es (by omega)).lt
        have hes8 := hes.keep (w' := w8) (G := fun q => (G q ∨ B ≤ q) ∧ q < w5.heap.size) fun q hq hl => by
          have hq1 : G q ∨ B ≤ q := by
            rcases hq.1 with h | h
            · exact h
            exact .inr h.1
          refine ⟨⟨hq1, hq.2⟩, HY8.out.block q hl fun h => ?_⟩
          rcases hq1 with h1 | h1
          · exact (HX0.out.2.2.1 q h).2 h1
          have := HSUB.out.2.2.2 q (HSUB.out.1 q h); have := HBX.out.1; omega
        have HS8 := hid (HL8.out.set8 nv hes8 (fun q hq hE => by
          have hz7 : w5.heap.size ≤ w7.heap.size := Nat.le_trans HY6.out.size HX7.out.size
          rcases HD8.out q hq with h | h
          · rcases hE.1 with h1 | h1
            · exact (HX0.out.2.2.1 q h).2 h1
            have := HSUB.out.2.2.2 q (HSUB.out.1 q h); have := HBX.out.1; omega
          · have := h.1; have := hE.2; omega) (fun q hE => ⟨by
          rcases hE.1 with h1 | h1
          · exact (HX0.out.2.2.2 q h1).1
          have := HGW.out; have := HBX.out.1; omega, Nat.lt_of_lt_of_le hE.2 HY8.out.size⟩) (tt + 1) (tt + 1) n5)
        obtain ⟨zla, zln, zlc, zobj, -⟩ := HL8.out.2.1
        obtain ⟨⟨z0, z1, z2, z3, z4, z5, z6, z7, z8⟩, zfz, zl8⟩ := cells9 zobj
        have e0 := zfz 0
        have e1 := zfz 1
        have e2 := zfz 2
        have e3 := zfz 3
        have e4 := zfz 4
        have e6 := zfz 6
        have e7 := zfz 7
        have e8 := zfz 8
        have HN5 := hid HBY5.out.1
        clear hpo hrow hvn hp8 hm hes hes8 zobj zfz hD8 hl8 hfw hz57
        go_wp2_with fail
        clear x0 x1 x2 x3 x4 xl z0 z1 z2 z3 z4 z5 z6 z7 z8 e0 e1 e2 e3 e4 e6 e7 e8 zl8
        change Calls _ _ _ (eight w8 g nv pa vn pc ((tt + 1 : Nat) : Int) ((tt + 1 : Nat) : Int) (n5 : Int)) _
        have z57 := HX57.out.size
        have z8 := HF78.out.size
        have hx9 := HS8.out.1.at_ (A := Go.Proofs.YtikjckdoldiddaaGreatDoor.grow A w (eight w8 g nv pa vn pc ((tt + 1 : Nat) : Int) ((tt + 1 : Nat) : Int) (n5 : Int))) (fun q hq => by
          rcases HD8.out q hq with h | h
          · exact .inl (HSUB.out.1 q h)
          · exact .inr ⟨by omega, by rw [HS8.out.2.2]; exact h.2⟩) (fun q hq => by
          rcases hq.1 with h | h
          · exact .inl (HSUB.out.2.1 q h)
          exact .inr ⟨by have := HBX.out.1; omega, by rw [HS8.out.2.2]; have := hq.2; have := HY8.out.size; omega⟩) (.inl HSUB.out.2.2.1) (grow_lt (by rw [HS8.out.2.2]; omega) HSUB.out.2.2.2)
        have hf9 : Frm A w (eight w8 g nv pa vn pc ((tt + 1 : Nat) : Int) ((tt + 1 : Nat) : Int) (n5 : Int)) :=
          ((Frm.after_ext HX57.out HFW.out).more (E := A) fun q hq => by
            rcases hq with h | h
            · exact HSUB.out.1 q h
            rw [h]; exact HSUB.out.2.2.1).trans HS8.out.2.1 fun q hq => .inl (by rw [show q = g from hq]; exact HSUB.out.2.2.1)
        have HL9 := hid hx9
        have HF9 := hid hf9
        generalize eight w8 g nv pa vn pc ((tt + 1 : Nat) : Int) ((tt + 1 : Nat) : Int) (n5 : Int) = w9 at *
        clear hx9 hf9 z57 z8 HS8 HF78 HFW HL8 HD8 HLN8
        obtain ⟨D9, G9, i1, i2, i3, i4, i5, -⟩ := HL9.out.parts
        have HSY := hid (Sync_at i1 HRO.out.1 (by have := HRO.out.2; dsimp only; omega))
        have HI := hid (And.intro i2 (And.intro i3 (And.intro i4 i5)))
        have hsok := HRO.out.1.sync
        have hsac := DS.sync_acts1 r2
        have hev := HR3.out
        rw [← HFT.out.2, ← HWB.out, ← HN5.out] at hev
        obtain ⟨rs, hrs⟩ : ∃ x, x = r2.sync := ⟨_, rfl⟩
        rw [← hrs] at HSY hev hsok hsac
        obtain ⟨s1, d10⟩ := rs
        have HSO := hid (show d10.Ok ∧ d10.acts.length ≤ 50000001 from ⟨hsok, by have := HRO.out.2; dsimp only at hsac; omega⟩)
        have HR4 := hid hev
        obtain ⟨mf, hmf⟩ : ∃ mf, mf = max fr 1 := ⟨_, rfl⟩
        have hmx : max (fr : Int) 1 = (mf : Int) := by omega
        have HMF := hid (show mf = max fr 1 ∧ mf ≤ tt + 1 from ⟨hmf, by have h1 := HFR.out; rw [← HFT.out.1, ← HFT.out.2] at h1; omega⟩)
        clear i1 i2 i3 i4 i5 hsok hsac hev hrs hmf HR3 HRO
        refine Calls.mono HSY.out ?_
        rintro e w10 hE
        have hl10 := LoAt.call (A := A) (w := w) (a := w9) (a1 := w9) (s := ⟨nv, tt + 1, tt + 1, n5⟩) (d := d10) HSUB.out.2.2.2 HF9.out HI.out.1 HI.out.2.1 HI.out.2.2.1 HI.out.2.2.2 (Below.refl _ _) hE.2.1 hE.2.2
        have HL10 := hid hl10
        obtain ⟨rfl, -, -⟩ := hE
        clear hl10 HI HSY HL9 HF9
        dsimp only
        by_cases hs1 : s1 = 0
        · subst hs1
          have hev := HR4.out
          unfold Lo.reb2 at hev
          rw [if_pos rfl] at hev
          dsimp only at hev
          have hold : v.old = List.range' mf (tt + 1 - mf) := by unfold Lo.old; rw [← HFT.out.1, ← HFT.out.2, ← HMF.out.1]
          rw [hold] at hev
          have HR5 := hid hev
          have hmt : mf ≤ tt + 1 := HMF.out.2
          clear hev hold HR4
          go_wp2
          go_loopw [13, 14] (fun z _ wr => ∃ (j : Nat) (dk : DS), j ≤ tt + 1 ∧ z = .int .i64 (j : Int) ∧ Hid (LoAt (Go.Proofs.YtikjckdoldiddaaGreatDoor.grow A w wr) wr g dg ⟨⟨nv, tt + 1, tt + 1, n5⟩, dk⟩ ∧ Frm A w wr) ∧ Hid (dk.Ok ∧ dk.acts.length ≤ 50000001 + j) ∧ Hid (r = ((dropL (List.range' j (tt + 1 - j)) dk).1, ⟨⟨nv, tt + 1, tt + 1, n5⟩, (dropL (List.range' j (tt + 1 - j)) dk).2⟩)) ∧ Hid (1 ≤ j)) (fun z _ _ => tt + 1 - (intOf z).toNat)
          case atStart => exact ⟨mf, d10, hmt, by go_num, HL10.out, ⟨HSO.out.1, by have := HSO.out.2; omega⟩, HR5.out, by have := HMF.out.1; show 1 ≤ mf; omega⟩
          obtain ⟨j, dk, hj, rfl, HLR, HDK, HRJ, HJ1⟩ := hrel
          by_cases hlt : j ≤ tt
          · have hltb : decide ((j : Int) ≤ (tt : Int)) = true := by simp; omega
            have hltc : decide (j ≤ tt) = true := by simpa using hlt
            have hj12 : j < 1000000000000 := by omega
            obtain ⟨D9, G9, i1, i2, i3, i4, i5, -⟩ := HLR.out.1.parts
            have c5 := i2.cells.1
            have HI := hid (And.intro i2 (And.intro i3 (And.intro i4 i5)))
            have hglr := i2.lt
            have HNJ := hid (fun W (hW : Ext wr W) => nameW_any ((HT.out.frm HLR.out.2 HPOW.out).ext hW) hj12)
            have HDR := hid (fun W (hW : Ext wr W) => Drop_at (i1.below hW) HDK.out.1 (by have := HDK.out.2; dsimp only; omega) (fileW j) (by rw [fileW_len hj12]; decide))
            have HC5 := hid (fun W (hW : Ext wr W) => (hW.cell (p := ⟨g, 5, none⟩) hglr).trans c5)
            have hev := HRJ.out
            have hrg : List.range' j (tt + 1 - j) = j :: List.range' (j + 1) (tt + 1 - (j + 1)) := by rw [show tt + 1 - j = (tt + 1 - (j + 1)) + 1 by omega]; rfl
            rw [hrg, dropL_cons] at hev
            have hdok := HDK.out.1.drop (fileW j)
            have hdac := DS.drop_acts dk (fileW j)
            obtain ⟨rd, hrd⟩ : ∃ x, x = dk.drop (fileW j) := ⟨_, rfl⟩
            rw [← hrd] at HDR hev hdok hdac
            obtain ⟨f, hf⟩ : ∃ f, f = fileW j := ⟨_, rfl⟩
            rw [← hf] at HDR HNJ
            obtain ⟨x1, dn⟩ := rd
            have HDN := hid (show dn.Ok ∧ dn.acts.length ≤ 50000001 + (j + 1) from ⟨hdok, by have := HDK.out.2; dsimp only at hdac; omega⟩)
            have HEV := hid hev
            have hj0 : (0 : Int) ≤ (j : Int) := by omega
            clear i1 i2 i3 i4 i5 hev hrg hdok hdac hrd hf HRJ HDK
            go_wp2
            have y0 : Ext wr wr.drew := ext_drew wr
            refine wp_region_held_drew (S := fun W' => Frm D9 wr W') (by kernel_rfl) (Frm.of_ext y0 _) (fun hH => ?_)
            clear hH
            have HC5F := hid (fun W (hW : Frm D9 wr W) => (hW.cell (p := ⟨g, 5, none⟩) hglr fun h => (HI.out.2.1 g h).2.1 rfl).trans c5)
            have y0 : Frm D9 wr wr.drew := Frm.of_ext y0 _
            refine held_run (i := 0) (v := .pointer (some ⟨g, 0, none⟩)) rfl (by kernel_rfl) (by kernel_rfl) (by kernel_rfl) (fun _ _ _ h => h) (by rfl) y0 (fun W hW => ?_) ?_
            · (clear hW; go_simp)
            try simp only [Act.put, List.setIfInBounds_toArray, List.set_cons_zero, List.set_cons_succ]
            refine held_run (i := 1) (v := .pointer (some ⟨g, 0, none⟩)) rfl (by kernel_rfl) (by kernel_rfl) (by kernel_rfl) (fun _ _ _ h => h) (by rfl) y0 (fun W hW => ?_) ?_
            · (clear hW; go_simp)
            try simp only [Act.put, List.setIfInBounds_toArray, List.set_cons_zero, List.set_cons_succ]
            refine held_run (i := 2) (v := .pointer (some ⟨g, 5, none⟩)) rfl (by kernel_rfl) (by kernel_rfl) (by kernel_rfl) (fun _ _ _ h => h) (by rfl) y0 (fun W hW => ?_) ?_
            · (clear hW; go_simp)
            try simp only [Act.put, List.setIfInBounds_toArray, List.set_cons_zero, List.set_cons_succ]
            refine held_run (i := 3) (v := .pointer (some ⟨dg, 0, none⟩)) rfl (by kernel_rfl) (by kernel_rfl) (by kernel_rfl) (fun _ _ _ h => h) (by rfl) y0 (fun W hW => ?_) ?_
            · (have z5 := HC5F.out W hW; clear hW; go_simp)
            try simp only [Act.put, List.setIfInBounds_toArray, List.set_cons_zero, List.set_cons_succ]
            refine held_run (i := 4) (v := .int .i64 (j : Int)) rfl (by kernel_rfl) (by kernel_rfl) (by kernel_rfl) (fun _ _ _ h => h) (by rfl) y0 (fun W hW => ?_) ?_
            · (clear hW; go_simp)
            try simp only [Act.put, List.setIfInBounds_toArray, List.set_cons_zero, List.set_cons_succ]
            refine wpAnyH_ready (rs := [5]) (by kernel_rfl) (by simp) ?_
            refine held_cons (i := 5) rfl (fun K hK => ?_)
            go_simp
            go_at_call 61
            refine Calls.mono (HNJ.out _ (ext_drew wr)) ?_
            rintro e w11 ⟨rfl, hx1⟩
            have y1 : Frm D9 wr w11 := Frm.of_ext ((ext_drew wr).trans' hx1) _
            have HX11 := hid ((ext_drew wr).trans' hx1)
            clear hx1
            dsimp only
            refine hK.out _ _ y1 (fun hH => ?_)
            clear hK K y0 hH
            have y0 := y1
            clear y1
            try simp only [Act.put, List.setIfInBounds_toArray, List.set_cons_zero, List.set_cons_succ]
            refine wpAnyH_ready (rs := [6]) (by kernel_rfl) (by simp) ?_
            refine held_cons (i := 6) rfl (fun K hK => ?_)
            go_simp
            go_at_call 59
            refine Calls.mono (HDR.out _ HX11.out) ?_
            rintro e w12 hE
            have HL12 := hid (LoAt.call (A := A) (w := w) (a := wr) (a1 := w11) (s := ⟨nv, tt + 1, tt + 1, n5⟩) (d := dn) HSUB.out.2.2.2 HLR.out.2 HI.out.1 HI.out.2.1 HI.out.2.2.1 HI.out.2.2.2 HX11.out hE.2.1 hE.2.2)
            have y1 : Frm D9 wr w12 := Frm.after_ext HX11.out hE.2.2
            obtain ⟨rfl, -, -⟩ := hE
            dsimp only at *
            refine hK.out _ _ y1 (fun hH => ?_)
            clear hK K y0 hH
            have y0 := y1
            clear y1
            try simp only [Act.put, List.setIfInBounds_toArray, List.set_cons_zero, List.set_cons_succ]
            refine held_run (i := 7) (v := .int .i64 x1) rfl (by kernel_rfl) (by kernel_rfl) (by kernel_rfl) (fun _ _ _ h => h) (by rfl) y0 (fun W hW => ?_) ?_
            · (clear hW; go_simp)
            try simp only [Act.put, List.setIfInBounds_toArray, List.set_cons_zero, List.set_cons_succ]
            refine wpAnyH_done (by kernel_rfl) ?_ _
            clear y0 c5
            by_cases hx1 : x1 = 0
            · subst hx1
              have hev := HEV.out
              rw [if_pos rfl] at hev
              have HRN := hid hev
              clear hev HEV
              go_wp2
              go_roundw
              case rel => exact ⟨j + 1, dn, by omega, by go_num, HL12.out, HDN.out, HRN.out, by show 1 ≤ j + 1; omega⟩
              case measure => simp [intOf]; omega
            have hb : (x1 != 0) = true := by simpa using hx1
            have hev := HEV.out
            rw [if_neg hx1] at hev
            have HRN := hid hev
            clear hev HEV hx1
            go_wp2
            go_ret
            rw [HRN.out]
            exact ⟨rfl, HL12.out.1, HL12.out.2⟩
          have hltb : decide ((j : Int) ≤ (tt : Int)) = false := by simp; omega
          have hltc : decide (j ≤ tt) = false := by simpa using hlt
          have hev := HRJ.out
          rw [show tt + 1 - j = 0 by omega] at hev
          have HRN := hid (show r = (0, ⟨⟨nv, tt + 1, tt + 1, n5⟩, dk⟩) from hev)
          clear hev HRJ hlt
          go_wp2
          go_ret
          rw [HRN.out]
          exact ⟨rfl, HLR.out.1, HLR.out.2⟩
        have hb : (s1 != 0) = true := by simpa using hs1
        have hev := HR4.out
        unfold Lo.reb2 at hev
        rw [if_neg hs1] at hev
        have HR5 := hid hev
        clear hev hs1 HR4
        go_wp2
        go_ret
        rw [HR5.out]
        exact ⟨rfl, HL10.out.1, HL10.out.2⟩
      have hb : (r1 != 0) = true := by simpa using hr1
      have hev := HR2.out
      unfold Lo.reb1 at hev
      rw [if_neg hr1] at hev
      have HR3 := hid hev
      clear hev hr1 HR2
      go_wp2
      go_ret
      rw [HR3.out]
      obtain ⟨⟨D8, hD8, hl8⟩, hfw⟩ := HLN8.out
      exact LoX.done HSUB.out.1 HSUB.out.2.1 HSUB.out.2.2.1 HSUB.out.2.2.2 ⟨rfl, ⟨D8, fun q hq => (hD8 q hq).imp id fun h => ⟨Nat.le_trans HX57.out.size h.1, h.2⟩, hl8⟩, Frm.after_ext HX57.out hfw⟩
    have k2b : decide (n ≤ zl) = false := by simpa using k2
    have HNO := hid (show ¬ (vv.at_ n = t ∧ n ≤ vv.last) from fun h => k2 (by rw [HZL.out]; exact h.2))
    clear k1 k2
    go_wp2_with fail
    refine Calls.mono HLA2.out ?_
    rintro e w3 ⟨rfl, qd3, hw3⟩
    have hx3 : Ext w2 w3 := by rw [hw3]; exact ext_drewN _ _
    have HX3 := hid (HX2.out.trans' hx3)
    have HPW := hid ((hx3.block p (Array.getElem?_eq_some_iff.1 HP2.out).1).trans HP2.out)
    have HXB := hid (Nat.le_trans HX12.out.size hx3.size)
    clear hw3 hx3 HLA2 HP2
    have HBX := hid (show w.heap.size ≤ w1.heap.size ∧ p < w1.heap.size ∧ w1.heap.size ≤ w3.heap.size from ⟨HX1.out.size, HP.out.2.1, HXB.out⟩)
    have HNX := hid (show NextAt (fun q => G q ∨ w1.heap.size ≤ q) w1.heap.size w3 p nv from by
      obtain ⟨e1, e2, e3, e4, e5⟩ := HNC.out
      rw [if_neg HNO.out] at e5
      refine ⟨none, 0, ?_, ?_⟩
      · rw [e1, e2, e3, e4, e5]; exact HPW.out
      rw [e5]; exact RowE.nil_ _ _ _)
    obtain ⟨B, hB⟩ : ∃ B, B = w1.heap.size := ⟨_, rfl⟩
    rw [← hB] at HBX HNX
    have HXW := hid HX3.out
    clear hB HNO HPW HXB
    obtain ⟨va, vc, hvw⟩ := HNX.out.vw HNF.out.1
    have HWH := hid (whole_any hvw HNF.out.2)
    have hwl : nv.whole.length ≤ 500000000000 := by have h1 := wholeB_le nv HNF.out.2; have := HNF.out.1.many; omega
    obtain ⟨WB, hWB⟩ : ∃ WB, WB = nv.whole := ⟨_, rfl⟩
    rw [← hWB] at HWH hwl HR1
    have HWB := hid hWB
    have HWL := hid hwl
    clear hvw hWB hwl
    go_wp2_with fail
    refine Calls.mono HWH.out ?_
    rintro e w5 ⟨q5, n5, c5, rfl, ho5, hx5⟩
    have HX5 := hid (HXW.out.trans' hx5)
    have HBY5 := hid (ho5.any (by have h1 := ho5.1; have h2 := HWL.out; omega))
    have HNX5 := hid (HNX.out.ext hx5)
    have HB5 := hid (Nat.le_trans HBX.out.2.2 hx5.size)
    obtain ⟨fr, hfr⟩ : ∃ x, x = v.s.fr := ⟨_, rfl⟩
    obtain ⟨tt, htt2⟩ : ∃ x, x = v.s.tt := ⟨_, rfl⟩
    rw [← htt2] at htt
    have HCC := hid (fun W' (hW : Ext w5 W') => show W'.cell? ⟨g, 5, none⟩ = some (.pointer (some ⟨dg, 0, none⟩)) ∧ W'.cell? ⟨g, 6, none⟩ = some (.int .i64 (fr : Int)) ∧ W'.cell? ⟨g, 7, none⟩ = some (.int .i64 (tt : Int)) from by
      obtain ⟨z5, z6, z7, -⟩ := (HX0.out.ext (HX5.out.trans' hW)).2.1.cells
      rw [hfr, htt2]
      exact ⟨z5, z6, z7⟩)
    have HFT := hid (And.intro hfr htt2)
    clear ho5 hx5 HWH HNX hfr htt2
    go_wp2
    have y0 : Ext w5 w5.drew := ext_drew w5
    refine wp_region_held_drew (S := fun W' => Ext w5 W') (by kernel_rfl) y0 (fun hH => ?_)
    clear hH
    generalize w5.drew = w6 at *
    refine held_run (i := 0) (v := .pointer (some ⟨g, 0, none⟩)) rfl (by kernel_rfl) (by kernel_rfl) (by kernel_rfl) (fun _ _ _ h => h) (by rfl) y0 (fun W hW => ?_) ?_
    · (clear hW; go_simp)
    try simp only [Act.put, List.setIfInBounds_toArray, List.set_cons_zero, List.set_cons_succ]
    refine held_run (i := 1) (v := .pointer (some ⟨g, 0, none⟩)) rfl (by kernel_rfl) (by kernel_rfl) (by kernel_rfl) (fun _ _ _ h => h) (by rfl) y0 (fun W hW => ?_) ?_
    · (clear hW; go_simp)
    try simp only [Act.put, List.setIfInBounds_toArray, List.set_cons_zero, List.set_cons_succ]
    refine held_run (i := 2) (v := .pointer (some ⟨g, 6, none⟩)) rfl (by kernel_rfl) (by kernel_rfl) (by kernel_rfl) (fun _ _ _ h => h) (by rfl) y0 (fun W hW => ?_) ?_
    · (clear hW; go_simp)
    try simp only [Act.put, List.setIfInBounds_toArray, List.set_cons_zero, List.set_cons_succ]
    refine held_run (i := 3) (v := .int .i64 (fr : Int)) rfl (by kernel_rfl) (by kernel_rfl) (by kernel_rfl) (fun _ _ _ h => h) (by rfl) y0 (fun W hW => ?_) ?_
    · (obtain ⟨z5, z6, z7⟩ := HCC.out W hW; clear hW; go_simp)
    try simp only [Act.put, List.setIfInBounds_toArray, List.set_cons_zero, List.set_cons_succ]
    refine held_run (i := 4) (v := .pointer (some ⟨g, 0, none⟩)) rfl (by kernel_rfl) (by kernel_rfl) (by kernel_rfl) (fun _ _ _ h => h) (by rfl) y0 (fun W hW => ?_) ?_
    · (clear hW; go_simp)
    try simp only [Act.put, List.setIfInBounds_toArray, List.set_cons_zero, List.set_cons_succ]
    refine held_run (i := 5) (v := .pointer (some ⟨g, 0, none⟩)) rfl (by kernel_rfl) (by kernel_rfl) (by kernel_rfl) (fun _ _ _ h => h) (by rfl) y0 (fun W hW => ?_) ?_
    · (clear hW; go_simp)
    try simp only [Act.put, List.setIfInBounds_toArray, List.set_cons_zero, List.set_cons_succ]
    refine held_run (i := 6) (v := .pointer (some ⟨g, 7, none⟩)) rfl (by kernel_rfl) (by kernel_rfl) (by kernel_rfl) (fun _ _ _ h => h) (by rfl) y0 (fun W hW => ?_) ?_
    · (clear hW; go_simp)
    try simp only [Act.put, List.setIfInBounds_toArray, List.set_cons_zero, List.set_cons_succ]
    refine held_run (i := 7) (v := .int .i64 (tt : Int)) rfl (by kernel_rfl) (by kernel_rfl) (by kernel_rfl) (fun _ _ _ h => h) (by rfl) y0 (fun W hW => ?_) ?_
    · (obtain ⟨z5, z6, z7⟩ := HCC.out W hW; clear hW; go_simp)
    try simp only [Act.put, List.setIfInBounds_toArray, List.set_cons_zero, List.set_cons_succ]
    refine held_run (i := 8) (v := .int .i64 (fr : Int)) rfl (by kernel_rfl) (by kernel_rfl) (by kernel_rfl) (fun _ _ _ h => h) (by rfl) y0 (fun W hW => ?_) ?_
    · (clear hW; go_simp)
    try simp only [Act.put, List.setIfInBounds_toArray, List.set_cons_zero, List.set_cons_succ]
    refine held_run (i := 9) (v := .int .i64 (tt : Int)) rfl (by kernel_rfl) (by kernel_rfl) (by kernel_rfl) (fun _ _ _ h => h) (by rfl) y0 (fun W hW => ?_) ?_
    · (clear hW; go_simp)
    try simp only [Act.put, List.setIfInBounds_toArray, List.set_cons_zero, List.set_cons_succ]
    refine wpAnyH_done (by kernel_rfl) ?_ _
    have HY6 := hid y0
    have HX6 := hid (HX5.out.trans' y0)
    clear y0
    have ht2l : tt + 1 < 1000000000000 := by omega
    have hw1 : IntKind.i64.wrap ((tt : Int) + 1) = ((tt + 1 : Nat) : Int) := by rw [IntWalk.i64_in _ ⟨by omega, by omega⟩]; omega
    have HWR := hid (fun W' (hW : Ext w6 W') => Write_at (HX0.out.1.below (HX6.out.trans' hW)) HOK.out (by have := HACT.out; omega) (fileW (tt + 1)) (by rw [fileW_len ht2l]; decide) 0 ⟨by decide, by decide⟩ (HBY5.out.below (HY6.out.trans' hW)))
    have HNA := hid (fun W' (hW : Ext w6 W') => nameW_any (HT.out.ext (HX6.out.trans' hW)) ht2l)
    have hr1 := HR1.out
    rw [← HFT.out.2] at hr1
    have hrok := HOK.out.write (fileW (tt + 1)) 0 WB
    have hrac := v.d.write_acts1 (fileW (tt + 1)) 0 WB
    obtain ⟨rw, hrw⟩ : ∃ x, x = v.d.write (fileW (tt + 1)) 0 WB := ⟨_, rfl⟩
    rw [← hrw] at HWR hr1 hrok hrac
    obtain ⟨f, hf⟩ : ∃ f, f = fileW (tt + 1) := ⟨_, rfl⟩
    rw [← hf] at HWR HNA
    obtain ⟨r1, r2⟩ := rw
    dsimp only at hrok hrac
    have HRO := hid (show r2.Ok ∧ r2.acts.length ≤ 50000001 from ⟨hrok, by have := HACT.out; omega⟩)
    have HR2 := hid hr1
    clear hr1 hrok hrac hrw hf HR1
    go_wp2
    have y0 : Ext w5 w6.drew := HY6.out.trans' (ext_drew w6)
    refine wp_region_held_drew (S := fun W' => Frm D w5 W') (by kernel_rfl) (Frm.of_ext y0 _) (fun hH => ?_)
    clear hH
    have HCD := hid (fun W' (hW : Frm D w5 W') => show W'.cell? ⟨g, 5, none⟩ = some (.pointer (some ⟨dg, 0, none⟩)) from
      (hW.cell (p := ⟨g, 5, none⟩) (Nat.lt_of_lt_of_le HGW.out HX5.out.size) fun h => (HX0.out.2.2.1 g h).1 rfl).trans (HCC.out w5 (Below.refl _ _)).1)
    have y0 : Frm D w5 w6.drew := Frm.of_ext y0 _
    refine held_run (i := 0) (v := .pointer (some ⟨g, 0, none⟩)) rfl (by kernel_rfl) (by kernel_rfl) (by kernel_rfl) (fun _ _ _ h => h) (by rfl) y0 (fun W hW => ?_) ?_
    · (clear hW; go_simp)
    try simp only [Act.put, List.setIfInBounds_toArray, List.set_cons_zero, List.set_cons_succ]
    refine held_run (i := 1) (v := .pointer (some ⟨g, 0, none⟩)) rfl (by kernel_rfl) (by kernel_rfl) (by kernel_rfl) (fun _ _ _ h => h) (by rfl) y0 (fun W hW => ?_) ?_
    · (clear hW; go_simp)
    try simp only [Act.put, List.setIfInBounds_toArray, List.set_cons_zero, List.set_cons_succ]
    refine held_run (i := 2) (v := .pointer (some ⟨g, 5, none⟩)) rfl (by kernel_rfl) (by kernel_rfl) (by kernel_rfl) (fun _ _ _ h => h) (by rfl) y0 (fun W hW => ?_) ?_
    · (clear hW; go_simp)
    try simp only [Act.put, List.setIfInBounds_toArray, List.set_cons_zero, List.set_cons_succ]
    refine held_run (i := 3) (v := .pointer (some ⟨dg, 0, none⟩)) rfl (by kernel_rfl) (by kernel_rfl) (by kernel_rfl) (fun _ _ _ h => h) (by rfl) y0 (fun W hW => ?_) ?_
    · (have z5 := HCD.out W hW; clear hW; go_simp)
    try simp only [Act.put, List.setIfInBounds_toArray, List.set_cons_zero, List.set_cons_succ]
    refine held_run (i := 4) (v := .int .i64 (tt : Int)) rfl (by kernel_rfl) (by kernel_rfl) (by kernel_rfl) (fun _ _ _ h => h) (by rfl) y0 (fun W hW => ?_) ?_
    · (clear hW; go_simp)
    try simp only [Act.put, List.setIfInBounds_toArray, List.set_cons_zero, List.set_cons_succ]
    refine held_run (i := 5) (v := .int .i64 ((tt + 1 : Nat) : Int)) rfl (by kernel_rfl) (by kernel_rfl) (by kernel_rfl) (fun _ _ _ h => h) (by rfl) y0 (fun W hW => ?_) ?_
    · (clear hW; go_simp)
    try simp only [Act.put, List.setIfInBounds_toArray, List.set_cons_zero, List.set_cons_succ]
    refine held_run (i := 7) (v := .slice (some ⟨q5, 0, none⟩) n5 c5) rfl (by kernel_rfl) (by kernel_rfl) (by kernel_rfl) (fun _ _ _ h => h) (by rfl) y0 (fun W hW => ?_) ?_
    · (clear hW; go_simp)
    try simp only [Act.put, List.setIfInBounds_toArray, List.set_cons_zero, List.set_cons_succ]
    refine wpAnyH_ready (rs := [6]) (by kernel_rfl) (by simp) ?_
    refine held_cons (i := 6) rfl (fun K hK => ?_)
    go_simp
    go_at_call 61
    refine Calls.mono (HNA.out _ (ext_drew w6)) ?_
    rintro e w7 ⟨rfl, hx1⟩
    have y1 : Frm D w5 w7 := Frm.of_ext (HY6.out.trans' ((ext_drew w6).trans' hx1)) _
    have HX7 := hid ((ext_drew w6).trans' hx1)
    clear hx1
    dsimp only
    refine hK.out _ _ y1 (fun hH => ?_)
    clear hK K y0 hH
    have y0 := y1
    clear y1
    try simp only [Act.put, List.setIfInBounds_toArray, List.set_cons_zero, List.set_cons_succ]
    refine wpAnyH_ready (rs := [8]) (by kernel_rfl) (by simp) ?_
    refine held_cons (i := 8) rfl (fun K hK => ?_)
    go_simp
    go_at_call 77
    refine Calls.mono (HWR.out _ HX7.out) ?_
    rintro e w8 hE
    have HX57 := hid (HX6.out.trans' HX7.out)
    have HLN8 := hid (LoX.disk (w := w7) (w1 := w7) (s := v.s) (d := r2) (HX0.out.ext HX57.out).2.1 HX0.out.2.2.1 (HX0.out.ext HX57.out).2.2.2 (Nat.lt_of_lt_of_le HGW.out HX57.out.size) (Below.refl _ _) hE.2.1 hE.2.2)
    have HF78 := hid hE.2.2
    have y1 : Frm D w5 w8 := Frm.after_ext (HY6.out.trans' HX7.out) hE.2.2
    obtain ⟨rfl, -, -⟩ := hE
    dsimp only at *
    refine hK.out _ _ y1 (fun hH => ?_)
    clear hK K y0 hH
    have y0 := y1
    clear y1
    try simp only [Act.put, List.setIfInBounds_toArray, List.set_cons_zero, List.set_cons_succ]
    refine held_run (i := 9) (v := .int .i64 r1) rfl (by kernel_rfl) (by kernel_rfl) (by kernel_rfl) (fun _ _ _ h => h) (by rfl) y0 (fun W hW => ?_) ?_
    · (clear hW; go_simp)
    try simp only [Act.put, List.setIfInBounds_toArray, List.set_cons_zero, List.set_cons_succ]
    refine wpAnyH_done (by kernel_rfl) ?_ _
    have HY8 := hid y0
    clear y0
    by_cases hr1 : r1 = 0
    · subst hr1
      have hev := HR2.out
      unfold Lo.reb1 at hev
      rw [if_pos rfl] at hev
      dsimp only at hev
      have HR3 := hid hev
      clear hev HR2
      obtain ⟨⟨D8, hD8, hl8⟩, hfw⟩ := HLN8.out
      have HD8 := hid hD8
      have HL8 := hid hl8
      have HFW := hid hfw
      have hz57 := HX57.out.size
      obtain ⟨pa, pc, hpo, hrow⟩ := HNX5.out
      obtain ⟨vn, hvn⟩ : ∃ vn, vn = nv.l.length := ⟨_, rfl⟩
      rw [← hvn] at hpo hrow
      have HPD := hid (show ¬ D p from fun h => by have := HSUB.out.2.2.2 p (HSUB.out.1 p h); have := HP.out.1; omega)
      have hp8 := (HY8.out.block p (Array.getElem?_eq_some_iff.1 hpo).1 HPD.out).trans hpo
      obtain ⟨⟨x0, x1, x2, x3, x4⟩, -, xl⟩ := vcells5 hp8
      have hm := HNF.out.1.many
      have hes := (hrow.es (by omega)).lt
      have hes8 := hes.keep (w' := w8) (G := fun q => (G q ∨ B ≤ q) ∧ q < w5.heap.size) fun q hq hl => by
        have hq1 : G q ∨ B ≤ q := by
          rcases hq.1 with h | h
          · exact h
          exact .inr h.1
        refine ⟨⟨hq1, hq.2⟩, HY8.out.block q hl fun h => ?_⟩
        rcases hq1 with h1 | h1
        · exact (HX0.out.2.2.1 q h).2 h1
        have := HSUB.out.2.2.2 q (HSUB.out.1 q h); have := HBX.out.1; omega
      have HS8 := hid (HL8.out.set8 nv hes8 (fun q hq hE => by
        have hz7 : w5.heap.size ≤ w7.heap.size := Nat.le_trans HY6.out.size HX7.out.size
        rcases HD8.out q hq with h | h
        · rcases hE.1 with h1 | h1
          · exact (HX0.out.2.2.1 q h).2 h1
          have := HSUB.out.2.2.2 q (HSUB.out.1 q h); have := HBX.out.1; omega
        · have := h.1; have := hE.2; omega) (fun q hE => ⟨by
        rcases hE.1 with h1 | h1
        · exact (HX0.out.2.2.2 q h1).1
        have := HGW.out; have := HBX.out.1; omega, Nat.lt_of_lt_of_le hE.2 HY8.out.size⟩) (tt + 1) (tt + 1) n5)
      obtain ⟨zla, zln, zlc, zobj, -⟩ := HL8.out.2.1
      obtain ⟨⟨z0, z1, z2, z3, z4, z5, z6, z7, z8⟩, zfz, zl8⟩ := cells9 zobj
      have e0 := zfz 0
      have e1 := zfz 1
      have e2 := zfz 2
      have e3 := zfz 3
      have e4 := zfz 4
      have e6 := zfz 6
      have e7 := zfz 7
      have e8 := zfz 8
      have HN5 := hid HBY5.out.1
      clear hpo hrow hvn hp8 hm hes hes8 zobj zfz hD8 hl8 hfw hz57
      go_wp2_with fail
      clear x0 x1 x2 x3 x4 xl z0 z1 z2 z3 z4 z5 z6 z7 z8 e0 e1 e2 e3 e4 e6 e7 e8 zl8
      change Calls _ _ _ (eight w8 g nv pa vn pc ((tt + 1 : Nat) : Int) ((tt + 1 : Nat) : Int) (n5 : Int)) _
      have z57 := HX57.out.size
      have z8 := HF78.out.size
      have hx9 := HS8.out.1.at_ (A := Go.Proofs.YtikjckdoldiddaaGreatDoor.grow A w (eight w8 g nv pa vn pc ((tt + 1 : Nat) : Int) ((tt + 1 : Nat) : Int) (n5 : Int))) (fun q hq => by
        rcases HD8.out q hq with h | h
        · exact .inl (HSUB.out.1 q h)
        · exact .inr ⟨by omega, by rw [HS8.out.2.2]; exact h.2⟩) (fun q hq => by
        rcases hq.1 with h | h
        · exact .inl (HSUB.out.2.1 q h)
        exact .inr ⟨by have := HBX.out.1; omega, by rw [HS8.out.2.2]; have := hq.2; have := HY8.out.size; omega⟩) (.inl HSUB.out.2.2.1) (grow_lt (by rw [HS8.out.2.2]; omega) HSUB.out.2.2.2)
      have hf9 : Frm A w (eight w8 g nv pa vn pc ((tt + 1 : Nat) : Int) ((tt + 1 : Nat) : Int) (n5 : Int)) :=
        ((Frm.after_ext HX57.out HFW.out).more (E := A) fun q hq => by
          rcases hq with h | h
          · exact HSUB.out.1 q h
          rw [h]; exact HSUB.out.2.2.1).trans HS8.out.2.1 fun q hq => .inl (by rw [show q = g from hq]; exact HSUB.out.2.2.1)
      have HL9 := hid hx9
      have HF9 := hid hf9
      generalize eight w8 g nv pa vn pc ((tt + 1 : Nat) : Int) ((tt + 1 : Nat) : Int) (n5 : Int) = w9 at *
      clear hx9 hf9 z57 z8 HS8 HF78 HFW HL8 HD8 HLN8
      obtain ⟨D9, G9, i1, i2, i3, i4, i5, -⟩ := HL9.out.parts
      have HSY := hid (Sync_at i1 HRO.out.1 (by have := HRO.out.2; dsimp only; omega))
      have HI := hid (And.intro i2 (And.intro i3 (And.intro i4 i5)))
      have hsok := HRO.out.1.sync
      have hsac := DS.sync_acts1 r2
      have hev := HR3.out
      rw [← HFT.out.2, ← HWB.out, ← HN5.out] at hev
      obtain ⟨rs, hrs⟩ : ∃ x, x = r2.sync := ⟨_, rfl⟩
      rw [← hrs] at HSY hev hsok hsac
      obtain ⟨s1, d10⟩ := rs
      have HSO := hid (show d10.Ok ∧ d10.acts.length ≤ 50000001 from ⟨hsok, by have := HRO.out.2; dsimp only at hsac; omega⟩)
      have HR4 := hid hev
      obtain ⟨mf, hmf⟩ : ∃ mf, mf = max fr 1 := ⟨_, rfl⟩
      have hmx : max (fr : Int) 1 = (mf : Int) := by omega
      have HMF := hid (show mf = max fr 1 ∧ mf ≤ tt + 1 from ⟨hmf, by have h1 := HFR.out; rw [← HFT.out.1, ← HFT.out.2] at h1; omega⟩)
      clear i1 i2 i3 i4 i5 hsok hsac hev hrs hmf HR3 HRO
      refine Calls.mono HSY.out ?_
      rintro e w10 hE
      have hl10 := LoAt.call (A := A) (w := w) (a := w9) (a1 := w9) (s := ⟨nv, tt + 1, tt + 1, n5⟩) (d := d10) HSUB.out.2.2.2 HF9.out HI.out.1 HI.out.2.1 HI.out.2.2.1 HI.out.2.2.2 (Below.refl _ _) hE.2.1 hE.2.2
      have HL10 := hid hl10
      obtain ⟨rfl, -, -⟩ := hE
      clear hl10 HI HSY HL9 HF9
      dsimp only
      by_cases hs1 : s1 = 0
      · subst hs1
        have hev := HR4.out
        unfold Lo.reb2 at hev
        rw [if_pos rfl] at hev
        dsimp only at hev
        have hold : v.old = List.range' mf (tt + 1 - mf) := by unfold Lo.old; rw [← HFT.out.1, ← HFT.out.2, ← HMF.out.1]
        rw [hold] at hev
        have HR5 := hid hev
        have hmt : mf ≤ tt + 1 := HMF.out.2
        clear hev hold HR4
        go_wp2
        go_loopw [13, 14] (fun z _ wr => ∃ (j : Nat) (dk : DS), j ≤ tt + 1 ∧ z = .int .i64 (j : Int) ∧ Hid (LoAt (Go.Proofs.YtikjckdoldiddaaGreatDoor.grow A w wr) wr g dg ⟨⟨nv, tt + 1, tt + 1, n5⟩, dk⟩ ∧ Frm A w wr) ∧ Hid (dk.Ok ∧ dk.acts.length ≤ 50000001 + j) ∧ Hid (r = ((dropL (List.range' j (tt + 1 - j)) dk).1, ⟨⟨nv, tt + 1, tt + 1, n5⟩, (dropL (List.range' j (tt + 1 - j)) dk).2⟩)) ∧ Hid (1 ≤ j)) (fun z _ _ => tt + 1 - (intOf z).toNat)
        case atStart => exact ⟨mf, d10, hmt, by go_num, HL10.out, ⟨HSO.out.1, by have := HSO.out.2; omega⟩, HR5.out, by have := HMF.out.1; show 1 ≤ mf; omega⟩
        obtain ⟨j, dk, hj, rfl, HLR, HDK, HRJ, HJ1⟩ := hrel
        by_cases hlt : j ≤ tt
        · have hltb : decide ((j : Int) ≤ (tt : Int)) = true := by simp; omega
          have hltc : decide (j ≤ tt) = true := by simpa using hlt
          have hj12 : j < 1000000000000 := by omega
          obtain ⟨D9, G9, i1, i2, i3, i4, i5, -⟩ := HLR.out.1.parts
          have c5 := i2.cells.1
          have HI := hid (And.intro i2 (And.intro i3 (And.intro i4 i5)))
          have hglr := i2.lt
          have HNJ := hid (fun W (hW : Ext wr W) => nameW_any ((HT.out.frm HLR.out.2 HPOW.out).ext hW) hj12)
          have HDR := hid (fun W (hW : Ext wr W) => Drop_at (i1.below hW) HDK.out.1 (by have := HDK.out.2; dsimp only; omega) (fileW j) (by rw [fileW_len hj12]; decide))
          have HC5 := hid (fun W (hW : Ext wr W) => (hW.cell (p := ⟨g, 5, none⟩) hglr).trans c5)
          have hev := HRJ.out
          have hrg : List.range' j (tt + 1 - j) = j :: List.range' (j + 1) (tt + 1 - (j + 1)) := by rw [show tt + 1 - j = (tt + 1 - (j + 1)) + 1 by omega]; rfl
          rw [hrg, dropL_cons] at hev
          have hdok := HDK.out.1.drop (fileW j)
          have hdac := DS.drop_acts dk (fileW j)
          obtain ⟨rd, hrd⟩ : ∃ x, x = dk.drop (fileW j) := ⟨_, rfl⟩
          rw [← hrd] at HDR hev hdok hdac
          obtain ⟨f, hf⟩ : ∃ f, f = fileW j := ⟨_, rfl⟩
          rw [← hf] at HDR HNJ
          obtain ⟨x1, dn⟩ := rd
          have HDN := hid (show dn.Ok ∧ dn.acts.length ≤ 50000001 + (j + 1) from ⟨hdok, by have := HDK.out.2; dsimp only at hdac; omega⟩)
          have HEV := hid hev
          have hj0 : (0 : Int) ≤ (j : Int) := by omega
          clear i1 i2 i3 i4 i5 hev hrg hdok hdac hrd hf HRJ HDK
          go_wp2
          have y0 : Ext wr wr.drew := ext_drew wr
          refine wp_region_held_drew (S := fun W' => Frm D9 wr W') (by kernel_rfl) (Frm.of_ext y0 _) (fun hH => ?_)
          clear hH
          have HC5F := hid (fun W (hW : Frm D9 wr W) => (hW.cell (p := ⟨g, 5, none⟩) hglr fun h => (HI.out.2.1 g h).2.1 rfl).trans c5)
          have y0 : Frm D9 wr wr.drew := Frm.of_ext y0 _
          refine held_run (i := 0) (v := .pointer (some ⟨g, 0, none⟩)) rfl (by kernel_rfl) (by kernel_rfl) (by kernel_rfl) (fun _ _ _ h => h) (by rfl) y0 (fun W hW => ?_) ?_
          · (clear hW; go_simp)
          try simp only [Act.put, List.setIfInBounds_toArray, List.set_cons_zero, List.set_cons_succ]
          refine held_run (i := 1) (v := .pointer (some ⟨g, 0, none⟩)) rfl (by kernel_rfl) (by kernel_rfl) (by kernel_rfl) (fun _ _ _ h => h) (by rfl) y0 (fun W hW => ?_) ?_
          · (clear hW; go_simp)
          try simp only [Act.put, List.setIfInBounds_toArray, List.set_cons_zero, List.set_cons_succ]
          refine held_run (i := 2) (v := .pointer (some ⟨g, 5, none⟩)) rfl (by kernel_rfl) (by kernel_rfl) (by kernel_rfl) (fun _ _ _ h => h) (by rfl) y0 (fun W hW => ?_) ?_
          · (clear hW; go_simp)
          try simp only [Act.put, List.setIfInBounds_toArray, List.set_cons_zero, List.set_cons_succ]
          refine held_run (i := 3) (v := .pointer (some ⟨dg, 0, none⟩)) rfl (by kernel_rfl) (by kernel_rfl) (by kernel_rfl) (fun _ _ _ h => h) (by rfl) y0 (fun W hW => ?_) ?_
          · (have z5 := HC5F.out W hW; clear hW; go_simp)
          try simp only [Act.put, List.setIfInBounds_toArray, List.set_cons_zero, List.set_cons_succ]
          refine held_run (i := 4) (v := .int .i64 (j : Int)) rfl (by kernel_rfl) (by kernel_rfl) (by kernel_rfl) (fun _ _ _ h => h) (by rfl) y0 (fun W hW => ?_) ?_
          · (clear hW; go_simp)
          try simp only [Act.put, List.setIfInBounds_toArray, List.set_cons_zero, List.set_cons_succ]
          refine wpAnyH_ready (rs := [5]) (by kernel_rfl) (by simp) ?_
          refine held_cons (i := 5) rfl (fun K hK => ?_)
          go_simp
          go_at_call 61
          refine Calls.mono (HNJ.out _ (ext_drew wr)) ?_
          rintro e w11 ⟨rfl, hx1⟩
          have y1 : Frm D9 wr w11 := Frm.of_ext ((ext_drew wr).trans' hx1) _
          have HX11 := hid ((ext_drew wr).trans' hx1)
          clear hx1
          dsimp only
          refine hK.out _ _ y1 (fun hH => ?_)
          clear hK K y0 hH
          have y0 := y1
          clear y1
          try simp only [Act.put, List.setIfInBounds_toArray, List.set_cons_zero, List.set_cons_succ]
          refine wpAnyH_ready (rs := [6]) (by kernel_rfl) (by simp) ?_
          refine held_cons (i := 6) rfl (fun K hK => ?_)
          go_simp
          go_at_call 59
          refine Calls.mono (HDR.out _ HX11.out) ?_
          rintro e w12 hE
          have HL12 := hid (LoAt.call (A := A) (w := w) (a := wr) (a1 := w11) (s := ⟨nv, tt + 1, tt + 1, n5⟩) (d := dn) HSUB.out.2.2.2 HLR.out.2 HI.out.1 HI.out.2.1 HI.out.2.2.1 HI.out.2.2.2 HX11.out hE.2.1 hE.2.2)
          have y1 : Frm D9 wr w12 := Frm.after_ext HX11.out hE.2.2
          obtain ⟨rfl, -, -⟩ := hE
          dsimp only at *
          refine hK.out _ _ y1 (fun hH => ?_)
          clear hK K y0 hH
          have y0 := y1
          clear y1
          try simp only [Act.put, List.setIfInBounds_toArray, List.set_cons_zero, List.set_cons_succ]
          refine held_run (i := 7) (v := .int .i64 x1) rfl (by kernel_rfl) (by kernel_rfl) (by kernel_rfl) (fun _ _ _ h => h) (by rfl) y0 (fun W hW => ?_) ?_
          · (clear hW; go_simp)
          try simp only [Act.put, List.setIfInBounds_toArray, List.set_cons_zero, List.set_cons_succ]
          refine wpAnyH_done (by kernel_rfl) ?_ _
          clear y0 c5
          by_cases hx1 : x1 = 0
          · subst hx1
            have hev := HEV.out
            rw [if_pos rfl] at hev
            have HRN := hid hev
            clear hev HEV
            go_wp2
            go_roundw
            case rel => exact ⟨j + 1, dn, by omega, by go_num, HL12.out, HDN.out, HRN.out, by show 1 ≤ j + 1; omega⟩
            case measure => simp [intOf]; omega
          have hb : (x1 != 0) = true := by simpa using hx1
          have hev := HEV.out
          rw [if_neg hx1] at hev
          have HRN := hid hev
          clear hev HEV hx1
          go_wp2
          go_ret
          rw [HRN.out]
          exact ⟨rfl, HL12.out.1, HL12.out.2⟩
        have hltb : decide ((j : Int) ≤ (tt : Int)) = false := by simp; omega
        have hltc : decide (j ≤ tt) = false := by simpa using hlt
        have hev := HRJ.out
        rw [show tt + 1 - j = 0 by omega] at hev
        have HRN := hid (show r = (0, ⟨⟨nv, tt + 1, tt + 1, n5⟩, dk⟩) from hev)
        clear hev HRJ hlt
        go_wp2
        go_ret
        rw [HRN.out]
        exact ⟨rfl, HLR.out.1, HLR.out.2⟩
      have hb : (s1 != 0) = true := by simpa using hs1
      have hev := HR4.out
      unfold Lo.reb2 at hev
      rw [if_neg hs1] at hev
      have HR5 := hid hev
      clear hev hs1 HR4
      go_wp2
      go_ret
      rw [HR5.out]
      exact ⟨rfl, HL10.out.1, HL10.out.2⟩
    have hb : (r1 != 0) = true := by simpa using hr1
    have hev := HR2.out
    unfold Lo.reb1 at hev
    rw [if_neg hr1] at hev
    have HR3 := hid hev
    clear hev hr1 HR2
    go_wp2
    go_ret
    rw [HR3.out]
    obtain ⟨⟨D8, hD8, hl8⟩, hfw⟩ := HLN8.out
    exact LoX.done HSUB.out.1 HSUB.out.2.1 HSUB.out.2.2.1 HSUB.out.2.2.2 ⟨rfl, ⟨D8, fun q hq => (hD8 q hq).imp id fun h => ⟨Nat.le_trans HX57.out.size h.1, h.2⟩, hl8⟩, Frm.after_ext HX57.out hfw⟩
  have k1b : (at1 == t) = false := by simpa using k1
  have HNO := hid (show ¬ (vv.at_ n = t ∧ n ≤ vv.last) from fun h => k1 (by rw [HATE.out]; exact h.1))
  have HPW := HP2
  have HXB := hid HX12.out.size
  clear k1
  have HBX := hid (show w.heap.size ≤ w1.heap.size ∧ p < w1.heap.size ∧ w1.heap.size ≤ w2.heap.size from ⟨HX1.out.size, HP.out.2.1, HXB.out⟩)
  have HNX := hid (show NextAt (fun q => G q ∨ w1.heap.size ≤ q) w1.heap.size w2 p nv from by
    obtain ⟨e1, e2, e3, e4, e5⟩ := HNC.out
    rw [if_neg HNO.out] at e5
    refine ⟨none, 0, ?_, ?_⟩
    · rw [e1, e2, e3, e4, e5]; exact HPW.out
    rw [e5]; exact RowE.nil_ _ _ _)
  obtain ⟨B, hB⟩ : ∃ B, B = w1.heap.size := ⟨_, rfl⟩
  rw [← hB] at HBX HNX
  have HXW := hid HX2.out
  clear hB HNO HPW HXB
  obtain ⟨va, vc, hvw⟩ := HNX.out.vw HNF.out.1
  have HWH := hid (whole_any hvw HNF.out.2)
  have hwl : nv.whole.length ≤ 500000000000 := by have h1 := wholeB_le nv HNF.out.2; have := HNF.out.1.many; omega
  obtain ⟨WB, hWB⟩ : ∃ WB, WB = nv.whole := ⟨_, rfl⟩
  rw [← hWB] at HWH hwl HR1
  have HWB := hid hWB
  have HWL := hid hwl
  clear hvw hWB hwl
  go_wp2_with fail
  refine Calls.mono HWH.out ?_
  rintro e w5 ⟨q5, n5, c5, rfl, ho5, hx5⟩
  have HX5 := hid (HXW.out.trans' hx5)
  have HBY5 := hid (ho5.any (by have h1 := ho5.1; have h2 := HWL.out; omega))
  have HNX5 := hid (HNX.out.ext hx5)
  have HB5 := hid (Nat.le_trans HBX.out.2.2 hx5.size)
  obtain ⟨fr, hfr⟩ : ∃ x, x = v.s.fr := ⟨_, rfl⟩
  obtain ⟨tt, htt2⟩ : ∃ x, x = v.s.tt := ⟨_, rfl⟩
  rw [← htt2] at htt
  have HCC := hid (fun W' (hW : Ext w5 W') => show W'.cell? ⟨g, 5, none⟩ = some (.pointer (some ⟨dg, 0, none⟩)) ∧ W'.cell? ⟨g, 6, none⟩ = some (.int .i64 (fr : Int)) ∧ W'.cell? ⟨g, 7, none⟩ = some (.int .i64 (tt : Int)) from by
    obtain ⟨z5, z6, z7, -⟩ := (HX0.out.ext (HX5.out.trans' hW)).2.1.cells
    rw [hfr, htt2]
    exact ⟨z5, z6, z7⟩)
  have HFT := hid (And.intro hfr htt2)
  clear ho5 hx5 HWH HNX hfr htt2
  go_wp2
  have y0 : Ext w5 w5.drew := ext_drew w5
  refine wp_region_held_drew (S := fun W' => Ext w5 W') (by kernel_rfl) y0 (fun hH => ?_)
  clear hH
  generalize w5.drew = w6 at *
  refine held_run (i := 0) (v := .pointer (some ⟨g, 0, none⟩)) rfl (by kernel_rfl) (by kernel_rfl) (by kernel_rfl) (fun _ _ _ h => h) (by rfl) y0 (fun W hW => ?_) ?_
  · (clear hW; go_simp)
  try simp only [Act.put, List.setIfInBounds_toArray, List.set_cons_zero, List.set_cons_succ]
  refine held_run (i := 1) (v := .pointer (some ⟨g, 0, none⟩)) rfl (by kernel_rfl) (by kernel_rfl) (by kernel_rfl) (fun _ _ _ h => h) (by rfl) y0 (fun W hW => ?_) ?_
  · (clear hW; go_simp)
  try simp only [Act.put, List.setIfInBounds_toArray, List.set_cons_zero, List.set_cons_succ]
  refine held_run (i := 2) (v := .pointer (some ⟨g, 6, none⟩)) rfl (by kernel_rfl) (by kernel_rfl) (by kernel_rfl) (fun _ _ _ h => h) (by rfl) y0 (fun W hW => ?_) ?_
  · (clear hW; go_simp)
  try simp only [Act.put, List.setIfInBounds_toArray, List.set_cons_zero, List.set_cons_succ]
  refine held_run (i := 3) (v := .int .i64 (fr : Int)) rfl (by kernel_rfl) (by kernel_rfl) (by kernel_rfl) (fun _ _ _ h => h) (by rfl) y0 (fun W hW => ?_) ?_
  · (obtain ⟨z5, z6, z7⟩ := HCC.out W hW; clear hW; go_simp)
  try simp only [Act.put, List.setIfInBounds_toArray, List.set_cons_zero, List.set_cons_succ]
  refine held_run (i := 4) (v := .pointer (some ⟨g, 0, none⟩)) rfl (by kernel_rfl) (by kernel_rfl) (by kernel_rfl) (fun _ _ _ h => h) (by rfl) y0 (fun W hW => ?_) ?_
  · (clear hW; go_simp)
  try simp only [Act.put, List.setIfInBounds_toArray, List.set_cons_zero, List.set_cons_succ]
  refine held_run (i := 5) (v := .pointer (some ⟨g, 0, none⟩)) rfl (by kernel_rfl) (by kernel_rfl) (by kernel_rfl) (fun _ _ _ h => h) (by rfl) y0 (fun W hW => ?_) ?_
  · (clear hW; go_simp)
  try simp only [Act.put, List.setIfInBounds_toArray, List.set_cons_zero, List.set_cons_succ]
  refine held_run (i := 6) (v := .pointer (some ⟨g, 7, none⟩)) rfl (by kernel_rfl) (by kernel_rfl) (by kernel_rfl) (fun _ _ _ h => h) (by rfl) y0 (fun W hW => ?_) ?_
  · (clear hW; go_simp)
  try simp only [Act.put, List.setIfInBounds_toArray, List.set_cons_zero, List.set_cons_succ]
  refine held_run (i := 7) (v := .int .i64 (tt : Int)) rfl (by kernel_rfl) (by kernel_rfl) (by kernel_rfl) (fun _ _ _ h => h) (by rfl) y0 (fun W hW => ?_) ?_
  · (obtain ⟨z5, z6, z7⟩ := HCC.out W hW; clear hW; go_simp)
  try simp only [Act.put, List.setIfInBounds_toArray, List.set_cons_zero, List.set_cons_succ]
  refine held_run (i := 8) (v := .int .i64 (fr : Int)) rfl (by kernel_rfl) (by kernel_rfl) (by kernel_rfl) (fun _ _ _ h => h) (by rfl) y0 (fun W hW => ?_) ?_
  · (clear hW; go_simp)
  try simp only [Act.put, List.setIfInBounds_toArray, List.set_cons_zero, List.set_cons_succ]
  refine held_run (i := 9) (v := .int .i64 (tt : Int)) rfl (by kernel_rfl) (by kernel_rfl) (by kernel_rfl) (fun _ _ _ h => h) (by rfl) y0 (fun W hW => ?_) ?_
  · (clear hW; go_simp)
  try simp only [Act.put, List.setIfInBounds_toArray, List.set_cons_zero, List.set_cons_succ]
  refine wpAnyH_done (by kernel_rfl) ?_ _
  have HY6 := hid y0
  have HX6 := hid (HX5.out.trans' y0)
  clear y0
  have ht2l : tt + 1 < 1000000000000 := by omega
  have hw1 : IntKind.i64.wrap ((tt : Int) + 1) = ((tt + 1 : Nat) : Int) := by rw [IntWalk.i64_in _ ⟨by omega, by omega⟩]; omega
  have HWR := hid (fun W' (hW : Ext w6 W') => Write_at (HX0.out.1.below (HX6.out.trans' hW)) HOK.out (by have := HACT.out; omega) (fileW (tt + 1)) (by rw [fileW_len ht2l]; decide) 0 ⟨by decide, by decide⟩ (HBY5.out.below (HY6.out.trans' hW)))
  have HNA := hid (fun W' (hW : Ext w6 W') => nameW_any (HT.out.ext (HX6.out.trans' hW)) ht2l)
  have hr1 := HR1.out
  rw [← HFT.out.2] at hr1
  have hrok := HOK.out.write (fileW (tt + 1)) 0 WB
  have hrac := v.d.write_acts1 (fileW (tt + 1)) 0 WB
  obtain ⟨rw, hrw⟩ : ∃ x, x = v.d.write (fileW (tt + 1)) 0 WB := ⟨_, rfl⟩
  rw [← hrw] at HWR hr1 hrok hrac
  obtain ⟨f, hf⟩ : ∃ f, f = fileW (tt + 1) := ⟨_, rfl⟩
  rw [← hf] at HWR HNA
  obtain ⟨r1, r2⟩ := rw
  dsimp only at hrok hrac
  have HRO := hid (show r2.Ok ∧ r2.acts.length ≤ 50000001 from ⟨hrok, by have := HACT.out; omega⟩)
  have HR2 := hid hr1
  clear hr1 hrok hrac hrw hf HR1
  go_wp2
  have y0 : Ext w5 w6.drew := HY6.out.trans' (ext_drew w6)
  refine wp_region_held_drew (S := fun W' => Frm D w5 W') (by kernel_rfl) (Frm.of_ext y0 _) (fun hH => ?_)
  clear hH
  have HCD := hid (fun W' (hW : Frm D w5 W') => show W'.cell? ⟨g, 5, none⟩ = some (.pointer (some ⟨dg, 0, none⟩)) from
    (hW.cell (p := ⟨g, 5, none⟩) (Nat.lt_of_lt_of_le HGW.out HX5.out.size) fun h => (HX0.out.2.2.1 g h).1 rfl).trans (HCC.out w5 (Below.refl _ _)).1)
  have y0 : Frm D w5 w6.drew := Frm.of_ext y0 _
  refine held_run (i := 0) (v := .pointer (some ⟨g, 0, none⟩)) rfl (by kernel_rfl) (by kernel_rfl) (by kernel_rfl) (fun _ _ _ h => h) (by rfl) y0 (fun W hW => ?_) ?_
  · (clear hW; go_simp)
  try simp only [Act.put, List.setIfInBounds_toArray, List.set_cons_zero, List.set_cons_succ]
  refine held_run (i := 1) (v := .pointer (some ⟨g, 0, none⟩)) rfl (by kernel_rfl) (by kernel_rfl) (by kernel_rfl) (fun _ _ _ h => h) (by rfl) y0 (fun W hW => ?_) ?_
  · (clear hW; go_simp)
  try simp only [Act.put, List.setIfInBounds_toArray, List.set_cons_zero, List.set_cons_succ]
  refine held_run (i := 2) (v := .pointer (some ⟨g, 5, none⟩)) rfl (by kernel_rfl) (by kernel_rfl) (by kernel_rfl) (fun _ _ _ h => h) (by rfl) y0 (fun W hW => ?_) ?_
  · (clear hW; go_simp)
  try simp only [Act.put, List.setIfInBounds_toArray, List.set_cons_zero, List.set_cons_succ]
  refine held_run (i := 3) (v := .pointer (some ⟨dg, 0, none⟩)) rfl (by kernel_rfl) (by kernel_rfl) (by kernel_rfl) (fun _ _ _ h => h) (by rfl) y0 (fun W hW => ?_) ?_
  · (have z5 := HCD.out W hW; clear hW; go_simp)
  try simp only [Act.put, List.setIfInBounds_toArray, List.set_cons_zero, List.set_cons_succ]
  refine held_run (i := 4) (v := .int .i64 (tt : Int)) rfl (by kernel_rfl) (by kernel_rfl) (by kernel_rfl) (fun _ _ _ h => h) (by rfl) y0 (fun W hW => ?_) ?_
  · (clear hW; go_simp)
  try simp only [Act.put, List.setIfInBounds_toArray, List.set_cons_zero, List.set_cons_succ]
  refine held_run (i := 5) (v := .int .i64 ((tt + 1 : Nat) : Int)) rfl (by kernel_rfl) (by kernel_rfl) (by kernel_rfl) (fun _ _ _ h => h) (by rfl) y0 (fun W hW => ?_) ?_
  · (clear hW; go_simp)
  try simp only [Act.put, List.setIfInBounds_toArray, List.set_cons_zero, List.set_cons_succ]
  refine held_run (i := 7) (v := .slice (some ⟨q5, 0, none⟩) n5 c5) rfl (by kernel_rfl) (by kernel_rfl) (by kernel_rfl) (fun _ _ _ h => h) (by rfl) y0 (fun W hW => ?_) ?_
  · (clear hW; go_simp)
  try simp only [Act.put, List.setIfInBounds_toArray, List.set_cons_zero, List.set_cons_succ]
  refine wpAnyH_ready (rs := [6]) (by kernel_rfl) (by simp) ?_
  refine held_cons (i := 6) rfl (fun K hK => ?_)
  go_simp
  go_at_call 61
  refine Calls.mono (HNA.out _ (ext_drew w6)) ?_
  rintro e w7 ⟨rfl, hx1⟩
  have y1 : Frm D w5 w7 := Frm.of_ext (HY6.out.trans' ((ext_drew w6).trans' hx1)) _
  have HX7 := hid ((ext_drew w6).trans' hx1)
  clear hx1
  dsimp only
  refine hK.out _ _ y1 (fun hH => ?_)
  clear hK K y0 hH
  have y0 := y1
  clear y1
  try simp only [Act.put, List.setIfInBounds_toArray, List.set_cons_zero, List.set_cons_succ]
  refine wpAnyH_ready (rs := [8]) (by kernel_rfl) (by simp) ?_
  refine held_cons (i := 8) rfl (fun K hK => ?_)
  go_simp
  go_at_call 77
  refine Calls.mono (HWR.out _ HX7.out) ?_
  rintro e w8 hE
  have HX57 := hid (HX6.out.trans' HX7.out)
  have HLN8 := hid (LoX.disk (w := w7) (w1 := w7) (s := v.s) (d := r2) (HX0.out.ext HX57.out).2.1 HX0.out.2.2.1 (HX0.out.ext HX57.out).2.2.2 (Nat.lt_of_lt_of_le HGW.out HX57.out.size) (Below.refl _ _) hE.2.1 hE.2.2)
  have HF78 := hid hE.2.2
  have y1 : Frm D w5 w8 := Frm.after_ext (HY6.out.trans' HX7.out) hE.2.2
  obtain ⟨rfl, -, -⟩ := hE
  dsimp only at *
  refine hK.out _ _ y1 (fun hH => ?_)
  clear hK K y0 hH
  have y0 := y1
  clear y1
  try simp only [Act.put, List.setIfInBounds_toArray, List.set_cons_zero, List.set_cons_succ]
  refine held_run (i := 9) (v := .int .i64 r1) rfl (by kernel_rfl) (by kernel_rfl) (by kernel_rfl) (fun _ _ _ h => h) (by rfl) y0 (fun W hW => ?_) ?_
  · (clear hW; go_simp)
  try simp only [Act.put, List.setIfInBounds_toArray, List.set_cons_zero, List.set_cons_succ]
  refine wpAnyH_done (by kernel_rfl) ?_ _
  have HY8 := hid y0
  clear y0
  by_cases hr1 : r1 = 0
  · subst hr1
    have hev := HR2.out
    unfold Lo.reb1 at hev
    rw [if_pos rfl] at hev
    dsimp only at hev
    have HR3 := hid hev
    clear hev HR2
    obtain ⟨⟨D8, hD8, hl8⟩, hfw⟩ := HLN8.out
    have HD8 := hid hD8
    have HL8 := hid hl8
    have HFW := hid hfw
    have hz57 := HX57.out.size
    obtain ⟨pa, pc, hpo, hrow⟩ := HNX5.out
    obtain ⟨vn, hvn⟩ : ∃ vn, vn = nv.l.length := ⟨_, rfl⟩
    rw [← hvn] at hpo hrow
    have HPD := hid (show ¬ D p from fun h => by have := HSUB.out.2.2.2 p (HSUB.out.1 p h); have := HP.out.1; omega)
    have hp8 := (HY8.out.block p (Array.getElem?_eq_some_iff.1 hpo).1 HPD.out).trans hpo
    obtain ⟨⟨x0, x1, x2, x3, x4⟩, -, xl⟩ := vcells5 hp8
    have hm := HNF.out.1.many
    have hes := (hrow.es (by omega)).lt
    have hes8 := hes.keep (w' := w8) (G := fun q => (G q ∨ B ≤ q) ∧ q < w5.heap.size) fun q hq hl => by
      have hq1 : G q ∨ B ≤ q := by
        rcases hq.1 with h | h
        · exact h
        exact .inr h.1
      refine ⟨⟨hq1, hq.2⟩, HY8.out.block q hl fun h => ?_⟩
      rcases hq1 with h1 | h1
      · exact (HX0.out.2.2.1 q h).2 h1
      have := HSUB.out.2.2.2 q (HSUB.out.1 q h); have := HBX.out.1; omega
    have HS8 := hid (HL8.out.set8 nv hes8 (fun q hq hE => by
      have hz7 : w5.heap.size ≤ w7.heap.size := Nat.le_trans HY6.out.size HX7.out.size
      rcases HD8.out q hq with h | h
      · rcases hE.1 with h1 | h1
        · exact (HX0.out.2.2.1 q h).2 h1
        have := HSUB.out.2.2.2 q (HSUB.out.1 q h); have := HBX.out.1; omega
      · have := h.1; have := hE.2; omega) (fun q hE => ⟨by
      rcases hE.1 with h1 | h1
      · exact (HX0.out.2.2.2 q h1).1
      have := HGW.out; have := HBX.out.1; omega, Nat.lt_of_lt_of_le hE.2 HY8.out.size⟩) (tt + 1) (tt + 1) n5)
    obtain ⟨zla, zln, zlc, zobj, -⟩ := HL8.out.2.1
    obtain ⟨⟨z0, z1, z2, z3, z4, z5, z6, z7, z8⟩, zfz, zl8⟩ := cells9 zobj
    have e0 := zfz 0
    have e1 := zfz 1
    have e2 := zfz 2
    have e3 := zfz 3
    have e4 := zfz 4
    have e6 := zfz 6
    have e7 := zfz 7
    have e8 := zfz 8
    have HN5 := hid HBY5.out.1
    clear hpo hrow hvn hp8 hm hes hes8 zobj zfz hD8 hl8 hfw hz57
    go_wp2_with fail
    clear x0 x1 x2 x3 x4 xl z0 z1 z2 z3 z4 z5 z6 z7 z8 e0 e1 e2 e3 e4 e6 e7 e8 zl8
    change Calls _ _ _ (eight w8 g nv pa vn pc ((tt + 1 : Nat) : Int) ((tt + 1 : Nat) : Int) (n5 : Int)) _
    have z57 := HX57.out.size
    have z8 := HF78.out.size
    have hx9 := HS8.out.1.at_ (A := Go.Proofs.YtikjckdoldiddaaGreatDoor.grow A w (eight w8 g nv pa vn pc ((tt + 1 : Nat) : Int) ((tt + 1 : Nat) : Int) (n5 : Int))) (fun q hq => by
      rcases HD8.out q hq with h | h
      · exact .inl (HSUB.out.1 q h)
      · exact .inr ⟨by omega, by rw [HS8.out.2.2]; exact h.2⟩) (fun q hq => by
      rcases hq.1 with h | h
      · exact .inl (HSUB.out.2.1 q h)
      exact .inr ⟨by have := HBX.out.1; omega, by rw [HS8.out.2.2]; have := hq.2; have := HY8.out.size; omega⟩) (.inl HSUB.out.2.2.1) (grow_lt (by rw [HS8.out.2.2]; omega) HSUB.out.2.2.2)
    have hf9 : Frm A w (eight w8 g nv pa vn pc ((tt + 1 : Nat) : Int) ((tt + 1 : Nat) : Int) (n5 : Int)) :=
      ((Frm.after_ext HX57.out HFW.out).more (E := A) fun q hq => by
        rcases hq with h | h
        · exact HSUB.out.1 q h
        rw [h]; exact HSUB.out.2.2.1).trans HS8.out.2.1 fun q hq => .inl (by rw [show q = g from hq]; exact HSUB.out.2.2.1)
    have HL9 := hid hx9
    have HF9 := hid hf9
    generalize eight w8 g nv pa vn pc ((tt + 1 : Nat) : Int) ((tt + 1 : Nat) : Int) (n5 : Int) = w9 at *
    clear hx9 hf9 z57 z8 HS8 HF78 HFW HL8 HD8 HLN8
    obtain ⟨D9, G9, i1, i2, i3, i4, i5, -⟩ := HL9.out.parts
    have HSY := hid (Sync_at i1 HRO.out.1 (by have := HRO.out.2; dsimp only; omega))
    have HI := hid (And.intro i2 (And.intro i3 (And.intro i4 i5)))
    have hsok := HRO.out.1.sync
    have hsac := DS.sync_acts1 r2
    have hev := HR3.out
    rw [← HFT.out.2, ← HWB.out, ← HN5.out] at hev
    obtain ⟨rs, hrs⟩ : ∃ x, x = r2.sync := ⟨_, rfl⟩
    rw [← hrs] at HSY hev hsok hsac
    obtain ⟨s1, d10⟩ := rs
    have HSO := hid (show d10.Ok ∧ d10.acts.length ≤ 50000001 from ⟨hsok, by have := HRO.out.2; dsimp only at hsac; omega⟩)
    have HR4 := hid hev
    obtain ⟨mf, hmf⟩ : ∃ mf, mf = max fr 1 := ⟨_, rfl⟩
    have hmx : max (fr : Int) 1 = (mf : Int) := by omega
    have HMF := hid (show mf = max fr 1 ∧ mf ≤ tt + 1 from ⟨hmf, by have h1 := HFR.out; rw [← HFT.out.1, ← HFT.out.2] at h1; omega⟩)
    clear i1 i2 i3 i4 i5 hsok hsac hev hrs hmf HR3 HRO
    refine Calls.mono HSY.out ?_
    rintro e w10 hE
    have hl10 := LoAt.call (A := A) (w := w) (a := w9) (a1 := w9) (s := ⟨nv, tt + 1, tt + 1, n5⟩) (d := d10) HSUB.out.2.2.2 HF9.out HI.out.1 HI.out.2.1 HI.out.2.2.1 HI.out.2.2.2 (Below.refl _ _) hE.2.1 hE.2.2
    have HL10 := hid hl10
    obtain ⟨rfl, -, -⟩ := hE
    clear hl10 HI HSY HL9 HF9
    dsimp only
    by_cases hs1 : s1 = 0
    · subst hs1
      have hev := HR4.out
      unfold Lo.reb2 at hev
      rw [if_pos rfl] at hev
      dsimp only at hev
      have hold : v.old = List.range' mf (tt + 1 - mf) := by unfold Lo.old; rw [← HFT.out.1, ← HFT.out.2, ← HMF.out.1]
      rw [hold] at hev
      have HR5 := hid hev
      have hmt : mf ≤ tt + 1 := HMF.out.2
      clear hev hold HR4
      go_wp2
      go_loopw [13, 14] (fun z _ wr => ∃ (j : Nat) (dk : DS), j ≤ tt + 1 ∧ z = .int .i64 (j : Int) ∧ Hid (LoAt (Go.Proofs.YtikjckdoldiddaaGreatDoor.grow A w wr) wr g dg ⟨⟨nv, tt + 1, tt + 1, n5⟩, dk⟩ ∧ Frm A w wr) ∧ Hid (dk.Ok ∧ dk.acts.length ≤ 50000001 + j) ∧ Hid (r = ((dropL (List.range' j (tt + 1 - j)) dk).1, ⟨⟨nv, tt + 1, tt + 1, n5⟩, (dropL (List.range' j (tt + 1 - j)) dk).2⟩)) ∧ Hid (1 ≤ j)) (fun z _ _ => tt + 1 - (intOf z).toNat)
      case atStart => exact ⟨mf, d10, hmt, by go_num, HL10.out, ⟨HSO.out.1, by have := HSO.out.2; omega⟩, HR5.out, by have := HMF.out.1; show 1 ≤ mf; omega⟩
      obtain ⟨j, dk, hj, rfl, HLR, HDK, HRJ, HJ1⟩ := hrel
      by_cases hlt : j ≤ tt
      · have hltb : decide ((j : Int) ≤ (tt : Int)) = true := by simp; omega
        have hltc : decide (j ≤ tt) = true := by simpa using hlt
        have hj12 : j < 1000000000000 := by omega
        obtain ⟨D9, G9, i1, i2, i3, i4, i5, -⟩ := HLR.out.1.parts
        have c5 := i2.cells.1
        have HI := hid (And.intro i2 (And.intro i3 (And.intro i4 i5)))
        have hglr := i2.lt
        have HNJ := hid (fun W (hW : Ext wr W) => nameW_any ((HT.out.frm HLR.out.2 HPOW.out).ext hW) hj12)
        have HDR := hid (fun W (hW : Ext wr W) => Drop_at (i1.below hW) HDK.out.1 (by have := HDK.out.2; dsimp only; omega) (fileW j) (by rw [fileW_len hj12]; decide))
        have HC5 := hid (fun W (hW : Ext wr W) => (hW.cell (p := ⟨g, 5, none⟩) hglr).trans c5)
        have hev := HRJ.out
        have hrg : List.range' j (tt + 1 - j) = j :: List.range' (j + 1) (tt + 1 - (j + 1)) := by rw [show tt + 1 - j = (tt + 1 - (j + 1)) + 1 by omega]; rfl
        rw [hrg, dropL_cons] at hev
        have hdok := HDK.out.1.drop (fileW j)
        have hdac := DS.drop_acts dk (fileW j)
        obtain ⟨rd, hrd⟩ : ∃ x, x = dk.drop (fileW j) := ⟨_, rfl⟩
        rw [← hrd] at HDR hev hdok hdac
        obtain ⟨f, hf⟩ : ∃ f, f = fileW j := ⟨_, rfl⟩
        rw [← hf] at HDR HNJ
        obtain ⟨x1, dn⟩ := rd
        have HDN := hid (show dn.Ok ∧ dn.acts.length ≤ 50000001 + (j + 1) from ⟨hdok, by have := HDK.out.2; dsimp only at hdac; omega⟩)
        have HEV := hid hev
        have hj0 : (0 : Int) ≤ (j : Int) := by omega
        clear i1 i2 i3 i4 i5 hev hrg hdok hdac hrd hf HRJ HDK
        go_wp2
        have y0 : Ext wr wr.drew := ext_drew wr
        refine wp_region_held_drew (S := fun W' => Frm D9 wr W') (by kernel_rfl) (Frm.of_ext y0 _) (fun hH => ?_)
        clear hH
        have HC5F := hid (fun W (hW : Frm D9 wr W) => (hW.cell (p := ⟨g, 5, none⟩) hglr fun h => (HI.out.2.1 g h).2.1 rfl).trans c5)
        have y0 : Frm D9 wr wr.drew := Frm.of_ext y0 _
        refine held_run (i := 0) (v := .pointer (some ⟨g, 0, none⟩)) rfl (by kernel_rfl) (by kernel_rfl) (by kernel_rfl) (fun _ _ _ h => h) (by rfl) y0 (fun W hW => ?_) ?_
        · (clear hW; go_simp)
        try simp only [Act.put, List.setIfInBounds_toArray, List.set_cons_zero, List.set_cons_succ]
        refine held_run (i := 1) (v := .pointer (some ⟨g, 0, none⟩)) rfl (by kernel_rfl) (by kernel_rfl) (by kernel_rfl) (fun _ _ _ h => h) (by rfl) y0 (fun W hW => ?_) ?_
        · (clear hW; go_simp)
        try simp only [Act.put, List.setIfInBounds_toArray, List.set_cons_zero, List.set_cons_succ]
        refine held_run (i := 2) (v := .pointer (some ⟨g, 5, none⟩)) rfl (by kernel_rfl) (by kernel_rfl) (by kernel_rfl) (fun _ _ _ h => h) (by rfl) y0 (fun W hW => ?_) ?_
        · (clear hW; go_simp)
        try simp only [Act.put, List.setIfInBounds_toArray, List.set_cons_zero, List.set_cons_succ]
        refine held_run (i := 3) (v := .pointer (some ⟨dg, 0, none⟩)) rfl (by kernel_rfl) (by kernel_rfl) (by kernel_rfl) (fun _ _ _ h => h) (by rfl) y0 (fun W hW => ?_) ?_
        · (have z5 := HC5F.out W hW; clear hW; go_simp)
        try simp only [Act.put, List.setIfInBounds_toArray, List.set_cons_zero, List.set_cons_succ]
        refine held_run (i := 4) (v := .int .i64 (j : Int)) rfl (by kernel_rfl) (by kernel_rfl) (by kernel_rfl) (fun _ _ _ h => h) (by rfl) y0 (fun W hW => ?_) ?_
        · (clear hW; go_simp)
        try simp only [Act.put, List.setIfInBounds_toArray, List.set_cons_zero, List.set_cons_succ]
        refine wpAnyH_ready (rs := [5]) (by kernel_rfl) (by simp) ?_
        refine held_cons (i := 5) rfl (fun K hK => ?_)
        go_simp
        go_at_call 61
        refine Calls.mono (HNJ.out _ (ext_drew wr)) ?_
        rintro e w11 ⟨rfl, hx1⟩
        have y1 : Frm D9 wr w11 := Frm.of_ext ((ext_drew wr).trans' hx1) _
        have HX11 := hid ((ext_drew wr).trans' hx1)
        clear hx1
        dsimp only
        refine hK.out _ _ y1 (fun hH => ?_)
        clear hK K y0 hH
        have y0 := y1
        clear y1
        try simp only [Act.put, List.setIfInBounds_toArray, List.set_cons_zero, List.set_cons_succ]
        refine wpAnyH_ready (rs := [6]) (by kernel_rfl) (by simp) ?_
        refine held_cons (i := 6) rfl (fun K hK => ?_)
        go_simp
        go_at_call 59
        refine Calls.mono (HDR.out _ HX11.out) ?_
        rintro e w12 hE
        have HL12 := hid (LoAt.call (A := A) (w := w) (a := wr) (a1 := w11) (s := ⟨nv, tt + 1, tt + 1, n5⟩) (d := dn) HSUB.out.2.2.2 HLR.out.2 HI.out.1 HI.out.2.1 HI.out.2.2.1 HI.out.2.2.2 HX11.out hE.2.1 hE.2.2)
        have y1 : Frm D9 wr w12 := Frm.after_ext HX11.out hE.2.2
        obtain ⟨rfl, -, -⟩ := hE
        dsimp only at *
        refine hK.out _ _ y1 (fun hH => ?_)
        clear hK K y0 hH
        have y0 := y1
        clear y1
        try simp only [Act.put, List.setIfInBounds_toArray, List.set_cons_zero, List.set_cons_succ]
        refine held_run (i := 7) (v := .int .i64 x1) rfl (by kernel_rfl) (by kernel_rfl) (by kernel_rfl) (fun _ _ _ h => h) (by rfl) y0 (fun W hW => ?_) ?_
        · (clear hW; go_simp)
        try simp only [Act.put, List.setIfInBounds_toArray, List.set_cons_zero, List.set_cons_succ]
        refine wpAnyH_done (by kernel_rfl) ?_ _
        clear y0 c5
        by_cases hx1 : x1 = 0
        · subst hx1
          have hev := HEV.out
          rw [if_pos rfl] at hev
          have HRN := hid hev
          clear hev HEV
          go_wp2
          go_roundw
          case rel => exact ⟨j + 1, dn, by omega, by go_num, HL12.out, HDN.out, HRN.out, by show 1 ≤ j + 1; omega⟩
          case measure => simp [intOf]; omega
        have hb : (x1 != 0) = true := by simpa using hx1
        have hev := HEV.out
        rw [if_neg hx1] at hev
        have HRN := hid hev
        clear hev HEV hx1
        go_wp2
        go_ret
        rw [HRN.out]
        exact ⟨rfl, HL12.out.1, HL12.out.2⟩
      have hltb : decide ((j : Int) ≤ (tt : Int)) = false := by simp; omega
      have hltc : decide (j ≤ tt) = false := by simpa using hlt
      have hev := HRJ.out
      rw [show tt + 1 - j = 0 by omega] at hev
      have HRN := hid (show r = (0, ⟨⟨nv, tt + 1, tt + 1, n5⟩, dk⟩) from hev)
      clear hev HRJ hlt
      go_wp2
      go_ret
      rw [HRN.out]
      exact ⟨rfl, HLR.out.1, HLR.out.2⟩
    have hb : (s1 != 0) = true := by simpa using hs1
    have hev := HR4.out
    unfold Lo.reb2 at hev
    rw [if_neg hs1] at hev
    have HR5 := hid hev
    clear hev hs1 HR4
    go_wp2
    go_ret
    rw [HR5.out]
    exact ⟨rfl, HL10.out.1, HL10.out.2⟩
  have hb : (r1 != 0) = true := by simpa using hr1
  have hev := HR2.out
  unfold Lo.reb1 at hev
  rw [if_neg hr1] at hev
  have HR3 := hid hev
  clear hev hr1 HR2
  go_wp2
  go_ret
  rw [HR3.out]
  obtain ⟨⟨D8, hD8, hl8⟩, hfw⟩ := HLN8.out
  exact LoX.done HSUB.out.1 HSUB.out.2.1 HSUB.out.2.2.1 HSUB.out.2.2.2 ⟨rfl, ⟨D8, fun q hq => (hD8 q hq).imp id fun h => ⟨Nat.le_trans HX57.out.size h.1, h.2⟩, hl8⟩, Frm.after_ext HX57.out hfw⟩
end Go.Proofs.YtikjckdoldiddaaGreatDoor
