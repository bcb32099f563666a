/- A view whose list is a row of the call's own. -/
import Derived.Test.YtikjckdoldiddaaGreatDoorCWk1
namespace Go.Proofs.YtikjckdoldiddaaGreatDoor
open Go.RowKit Go.Maps
set_option linter.unusedVariables false
set_option linter.unusedSimpArgs false
attribute [local go_sem] bmax2 bmin2 bmax_two bmin_two

theorem OwnE.row {B : Nat} {w : World} {v : Value} {l : List Ent} (h : OwnE 46 B w v l) : RowE (fun q => B ≤ q) B w v l := by
  rcases h with ⟨rfl, rfl⟩ | ⟨g, cap, rfl, hb, h⟩
  · exact ⟨[], rfl, World.ownsRow_nil _ _ _ _, (fun k h1 => absurd h1 (Nat.not_lt_zero _)), fun k h1 => absurd h1 (Nat.not_lt_zero _)⟩
  have hx : ∀ k : Fin l.length, ∃ x : EH, (∀ j, j < 3 → w.cell? ⟨g, k.1 * 3 + j, none⟩ = x.cells[j]?) ∧ x.i = l[k].i ∧ x.t = l[k].t ∧ ByF (Off (fun q => B ≤ q) (.slice (some ⟨g, 0, none⟩) l.length cap)) w x.a x.n x.c l[k].d := by
    intro k
    obtain ⟨_, _, e1, e2, a', n', c', e3, e4⟩ := h.each k.1 k.2
    refine ⟨⟨l[k].i, l[k].t, a', n', c'⟩, fun j hj => ?_, rfl, rfl, e4.more fun q hq => ⟨by omega, fun e => by injection e with e; have e : g = q := e; omega⟩⟩
    match j, hj with
    | 0, _ => exact e1
    | 1, _ => exact e2
    | 2, _ => exact e3
  obtain ⟨cur, hc1, hc2⟩ := h.row
  have hcell : ∀ j, w.cell? ⟨g, j, none⟩ = cur[j]? := fun j => by simp [World.cell?, hc1]
  refine ⟨List.ofFn fun k => Classical.choose (hx k), by simp, ⟨by rw [rawH_length], .inr ⟨g, cap, cur, by simp, hb, hc1, by simpa using h.len, h.cap, hc2, ?_⟩⟩, fun k k1 k2 => ?_, fun k hk => ?_⟩
  · refine List.ext_getElem? fun j => ?_
    by_cases hj : j < l.length * 3
    · have hq : j / 3 < l.length := by omega
      have e : j = j / 3 * 3 + j % 3 := by omega
      have h3 := (Classical.choose_spec (hx ⟨j / 3, hq⟩)).1 (j % 3) (by omega)
      dsimp only at h3
      rw [← e, hcell] at h3
      rw [List.getElem?_take, if_pos (by simpa using hj), Array.getElem?_toList, h3]
      conv => rhs; rw [e, rawH_get _ _ _ (by omega)]
      rw [List.getElem?_ofFn, dif_pos hq]
      rfl
    rw [List.getElem?_eq_none (by rw [List.length_take]; simp; omega), List.getElem?_eq_none (by rw [rawH_length]; simp; omega)]
  · rw [List.getElem_ofFn]
    exact (Classical.choose_spec (hx ⟨k, k2⟩)).2
  obtain ⟨h1, h2, -⟩ := h.each k hk
  exact ⟨h1, h2⟩
theorem RowE.take {F : Nat → Prop} {B : Nat} {w : World} {a : Option Addr} {n c : Nat} {l : List Ent} (h : RowE F B w (.slice a n c) l) (k : Nat) (hk : k ≤ l.length) : RowE F B w (.slice a k c) (l.take k) := by
  obtain ⟨H, h1, ⟨h2, h5⟩, h3, h4⟩ := h
  have hto : ∀ (H : List EH) (k : Nat), k ≤ H.length → rawH (H.take k) = (rawH H).take (k * 3) := by
    intro H
    induction H with
    | nil => intro k hk; simp [rawH]
    | cons x H ih =>
      intro k hk
      cases k with
      | zero => simp [rawH]
      | succ k =>
        show x.cells ++ rawH (H.take k) = (x.cells ++ rawH H).take ((k + 1) * 3)
        have hxc : x.cells.length = 3 := rfl
        rw [ih k (by simpa using hk), List.take_append, List.take_of_length_le (l := x.cells) (by rw [hxc]; omega), hxc, show (k + 1) * 3 - 3 = k * 3 by omega]
  have hl : (H.take k).length = k := by rw [List.length_take]; omega
  have hoff : ∀ q, Off F (.slice a n c) q → Off F (.slice a k c) q := fun q hq => ⟨hq.1, by cases a <;> exact hq.2⟩
  refine ⟨H.take k, by rw [hl, List.length_take]; omega, ⟨by rw [rawH_length], ?_⟩, fun j j1 j2 => ?_, fun j hj => ?_⟩
  · rw [hl]
    rcases h5 with ⟨e1, e2⟩ | ⟨g, cap, cur, e1, hb, hg, hn, hmx, hs, ht⟩
    · injection e1 with e1 e3 e4
      subst e1; subst e4
      exact .inl ⟨by rw [show k = 0 by omega], by omega⟩
    injection e1 with e1 e3 e4
    subst e1; subst e4
    refine .inr ⟨g, c, cur, rfl, hb, hg, by omega, hmx, hs, ?_⟩
    rw [hto H k (by omega), ← ht, List.take_take]
    congr 1
    have : k * 3 ≤ H.length * 3 := by omega
    omega
  · rw [List.length_take] at j1 j2
    rw [List.getElem_take, List.getElem_take]
    obtain ⟨d1, d2, d3⟩ := h3 j (by omega) (by omega)
    exact ⟨d1, d2, d3.more hoff⟩
  rw [List.length_take] at hj
  rw [List.getElem_take]
  exact h4 j (by omega)
def ViewOPost (v : Wv) (w : World) (e : Ending) (w' : World) : Prop := ∃ a n c, e = .returned (vwV v (.slice a n c)) ∧ RowE (fun q => w.heap.size ≤ q) w.heap.size w' (.slice a n c) v.l ∧ v.l.length * 40 ≤ 140737488351232 ∧ Ext w w'
set_option maxRecDepth 100000 in
set_option maxHeartbeats 4000000 in
theorem view_own {A : Nat → Prop} {w : World} {g dg : Nat} {v : Lo} (h : LoAt A w g dg v) :
    Calls Tryz.prog 19 #[.pointer (some ⟨g, 0, none⟩)] w (ViewOPost v.s.v w) := by
  have HH := hid (fun W (hW : Ext w W) => LHard_any (h.below hW))
  have HE := hid (fun W (hW : Ext w W) => LEntries_any (h.below hW))
  have HBA := hid (fun W (hW : Ext w W) => LBase_any (h.below hW))
  obtain ⟨vv, hvv⟩ : ∃ vv, vv = v.s.v := ⟨_, rfl⟩
  rw [← hvv] at HH HE HBA ⊢
  have hx0 := ext_alloc w (.cells #[.int .i64 0, .int .i64 0, .int .i64 0, .int .i64 0, .slice none 0 0] 42)
  have hn0 := heap_alloc_new w (.cells #[.int .i64 0, .int .i64 0, .int .i64 0, .int .i64 0, .slice none 0 0] 42)
  have HX0 := hid hx0
  have HN0 := hid hn0
  clear hx0 hn0 hvv h
  go_enter Tryz.func19, Tryz.ntmps19
  go_wp2_with fail
  generalize w.alloc (.cells #[.int .i64 0, .int .i64 0, .int .i64 0, .int .i64 0, .slice none 0 0] 42) = w1 at *
  obtain ⟨p, hp⟩ : ∃ p, p = w.heap.size := ⟨_, rfl⟩
  rw [← hp] at HN0 ⊢
  have HP := hid hp
  have HPL := hid (Array.getElem?_eq_some_iff.1 HN0.out).1
  clear hp
  refine Calls.mono (HH.out w1 HX0.out) ?_
  rintro e w2 ⟨rfl, hx2⟩
  have HX2 := hid (HX0.out.trans' hx2)
  have HX12 := hid hx2
  clear hx2
  go_wp2_with fail
  refine Calls.mono (HE.out w2 HX2.out) ?_
  rintro e w3 ⟨r, rfl, ho, hx3⟩
  have hrow := ho.row
  obtain ⟨ra, rn, rc, hr, hes⟩ : ∃ a n c, r = .slice a n c ∧ vv.l.length * 40 ≤ 140737488351232 := by obtain ⟨a, c, h, h2⟩ := ho.es; exact ⟨_, _, _, h, h2.2.2.1.2⟩
  subst hr
  have HO := hid hrow
  have HE40 := hid hes
  have HZ2 := hid (show w.heap.size ≤ w2.heap.size from HX2.out.size)
  have HX3 := hid (HX2.out.trans' hx3)
  have HX13 := hid (HX12.out.trans' hx3)
  have HX23 := hid hx3
  have hx4 := ext_alloc w3 (.cells #[.int .i64 vv.ht, .int .i64 vv.hv, .int .i64 0, .int .i64 0, .slice ra rn rc] 42)
  have hn4 := heap_alloc_new w3 (.cells #[.int .i64 vv.ht, .int .i64 vv.hv, .int .i64 0, .int .i64 0, .slice ra rn rc] 42)
  have HX34 := hid hx4
  have HN4 := hid hn4
  clear ho hes hrow hx3 hx4 hn4
  go_wp2_with fail
  generalize w3.alloc (.cells #[.int .i64 vv.ht, .int .i64 vv.hv, .int .i64 0, .int .i64 0, .slice ra rn rc] 42) = w4 at *
  obtain ⟨p4, hp4⟩ : ∃ p, p = w3.heap.size := ⟨_, rfl⟩
  rw [← hp4] at HN4 ⊢
  have HP4 := hid hp4
  clear hp4
  refine Calls.mono (HBA.out w4 (HX3.out.trans' HX34.out)) ?_
  rintro e w5 ⟨rfl, hx5⟩
  have h4 := (hx5.block p4 (Array.getElem?_eq_some_iff.1 HN4.out).1).trans HN4.out
  have hpne : p ≠ p4 := by have h1 := HPL.out; have h2 := HX13.out.size; have := HP4.out; omega
  obtain ⟨⟨c0, c1, c2, c3, c4⟩, cfz, cl⟩ := cells5 h4
  have f2 := cfz 2
  have f3 := cfz 3
  have hS := ((SetG.start h4).step 2 (.int .i64 vv.i)).step 3 (.int .i64 vv.t)
  have h0 := ((HX13.out.trans' (HX34.out.trans' hx5)).block p HPL.out).trans HN0.out
  have h0' := (hS.frm.block p (Array.getElem?_eq_some_iff.1 h0).1 hpne).trans h0
  obtain ⟨⟨d0, d1, d2, d3, d4⟩, dfz, dl⟩ := cells5 h0
  have g0 := dfz 0
  have g1 := dfz 1
  have g2 := dfz 2
  have g3 := dfz 3
  have g4 := dfz 4
  have HX5 := hid (HX3.out.trans' (HX34.out.trans' hx5))
  have HX35 := hid (HX34.out.trans' hx5)
  have HS := hid hS
  have HS0 := hid (((((SetG.start h0').step 0 (.int .i64 vv.ht)).step 1 (.int .i64 vv.hv)).step 2 (.int .i64 vv.i)).step 3 (.int .i64 vv.t) |>.step 4 (.slice ra rn rc))
  have HNE := hid hpne
  clear h4 cfz hS h0 h0' dfz hx5
  go_wp2
  refine bodyPost_ret_by (results_cell_row rfl _ _ p _ _ _ (Tryz.prog.underlying 42).get! rfl HS0.out.obj (by kernel_rfl) (by kernel_rfl) (by kernel_rfl)) rfl ?_
  have z1 := HX12.out.size
  have z2 := HPL.out
  have z3 := HP4.out
  have z4 := HX35.out.size
  have z5 := HS.out.size
  have z6 := HS0.out.size
  have hkeep : ∀ q, w2.heap.size ≤ q → q < w3.heap.size → (_ : World).heap[q]? = w3.heap[q]? := fun q hq hl => by
    have h1 : q ≠ p4 := by omega
    have h2 : q ≠ p := by have := hq; omega
    have hl5 := Nat.lt_of_lt_of_le hl z4
    exact (HS0.out.frm.block q (by omega) h2).trans ((HS.out.frm.block q hl5 h1).trans (HX35.out.block q hl))
  have hr3 := HO.out.keep hkeep fun q hq hl => ⟨Nat.le_trans HZ2.out hq, hkeep q hq hl⟩
  obtain ⟨H, k1, k2, k3, k4⟩ := hr3
  refine ⟨ra, rn, rc, rfl, ⟨H, k1, ⟨k2.1, ?_⟩, k3, k4⟩, HE40.out, ?_⟩
  · rcases k2.2 with k2 | ⟨g, cap, cur, e1, hb, hr⟩
    · exact .inl k2
    exact .inr ⟨g, cap, cur, e1, Nat.le_trans HZ2.out hb, hr⟩
  exact ext_frm (ext_frm HX5.out HS.out.frm fun q hq => by rw [show q = p4 from hq]; have := HX3.out.size; omega) HS0.out.frm fun q hq => by rw [show q = p from hq, HP.out]; exact Nat.le_refl _
end Go.Proofs.YtikjckdoldiddaaGreatDoor
