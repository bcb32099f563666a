/- The walks of the law's view, same, begun. -/
import Derived.Test.YtikjckdoldiddaaGreatDoorC26
import Derived.Test.YtikjckdoldiddaaGreatDoorC23
import Derived.Test.YtikjckdoldiddaaGreatDoorC22
import Derived.Test.YtikjckdoldiddaaGreatDoorC10
import Derived.Test.YtikjckdoldiddaaGreatDoorC01
namespace Go.Proofs.YtikjckdoldiddaaGreatDoor
open Go.RowKit Go.Maps
set_option linter.unusedVariables false
set_option linter.unusedSimpArgs false
attribute [local go_sem] bmax2 bmin2 bmax_two bmin_two

/-- A view as a value. -/
def vwV (v : Wv) (r : Value) : Value := .agg #[.int .i64 v.ht, .int .i64 v.hv, .int .i64 v.i, .int .i64 v.t, r]
def ViewPost (v : Wv) (w : World) (e : Ending) (w' : World) : Prop := ∃ a n c, e = .returned (vwV v (.slice a n c)) ∧ EsF (fun q => w.heap.size ≤ q ∧ q < w'.heap.size) w' a n c v.l ∧ Ext w w'
theorem cells5 {W : World} {b : Nat} {x0 x1 x2 x3 x4 : Value} {t : TypeId} (h : W.heap[b]? = some (.cells #[x0, x1, x2, x3, x4] t (0, 0))) :
    (W.cell? ⟨b, 0, none⟩ = some x0 ∧ W.cell? ⟨b, 1, none⟩ = some x1 ∧ W.cell? ⟨b, 2, none⟩ = some x2 ∧ W.cell? ⟨b, 3, none⟩ = some x3 ∧ W.cell? ⟨b, 4, none⟩ = some x4) ∧ (∀ j, W.frozen? ⟨b, j, none⟩ = false) ∧ b < W.heap.size :=
  ⟨⟨by simp [World.cell?, h], by simp [World.cell?, h], by simp [World.cell?, h], by simp [World.cell?, h], by simp [World.cell?, h]⟩, fun j => by simp [World.frozen?, h], (Array.getElem?_eq_some_iff.1 h).1⟩
set_option maxRecDepth 100000 in
set_option maxHeartbeats 4000000 in
theorem view_any {A : Nat → Prop} {w : World} {g dg : Nat} {v : Lo} (h : LoAt A w g dg v) :
    Calls Tryz.prog 19 #[.pointer (some ⟨g, 0, none⟩)] w (ViewPost v.s.v w) := by
  have HH := hid (fun W (hW : Ext w W) => LHard_any (h.below hW))
  have HE := hid (fun W (hW : Ext w W) => LEntries_any (h.below hW))
  have HBA := hid (fun W (hW : Ext w W) => LBase_any (h.below hW))
  obtain ⟨vv, hvv⟩ : ∃ vv, vv = v.s.v := ⟨_, rfl⟩
  rw [← hvv] at HH HE HBA ⊢
  have hx0 := ext_alloc w (.cells #[.int .i64 0, .int .i64 0, .int .i64 0, .int .i64 0, .slice none 0 0] 42)
  have hn0 := heap_alloc_new w (.cells #[.int .i64 0, .int .i64 0, .int .i64 0, .int .i64 0, .slice none 0 0] 42)
  have HX0 := hid hx0
  have HN0 := hid hn0
  clear hx0 hn0 hvv h
  go_enter Tryz.func19, Tryz.ntmps19
  go_wp2_with fail
  generalize w.alloc (.cells #[.int .i64 0, .int .i64 0, .int .i64 0, .int .i64 0, .slice none 0 0] 42) = w1 at *
  obtain ⟨p, hp⟩ : ∃ p, p = w.heap.size := ⟨_, rfl⟩
  rw [← hp] at HN0 ⊢
  have HP := hid hp
  have HPL := hid (Array.getElem?_eq_some_iff.1 HN0.out).1
  clear hp
  refine Calls.mono (HH.out w1 HX0.out) ?_
  rintro e w2 ⟨rfl, hx2⟩
  have HX2 := hid (HX0.out.trans' hx2)
  have HX12 := hid hx2
  clear hx2
  go_wp2_with fail
  refine Calls.mono (HE.out w2 HX2.out) ?_
  rintro e w3 ⟨r, rfl, ho, hx3⟩
  obtain ⟨ra, rn, rc, hr, hes⟩ : ∃ a n c, r = .slice a n c ∧ EsF (fun b => w2.heap.size ≤ b) w3 a n c vv.l := by obtain ⟨a, c, h, h2⟩ := ho.es; exact ⟨_, _, _, h, h2⟩
  subst hr
  have HO := hid hes.lt
  have HZ2 := hid (show w.heap.size ≤ w2.heap.size from HX2.out.size)
  have HX3 := hid (HX2.out.trans' hx3)
  have HX13 := hid (HX12.out.trans' hx3)
  have HX23 := hid hx3
  have hx4 := ext_alloc w3 (.cells #[.int .i64 vv.ht, .int .i64 vv.hv, .int .i64 0, .int .i64 0, .slice ra rn rc] 42)
  have hn4 := heap_alloc_new w3 (.cells #[.int .i64 vv.ht, .int .i64 vv.hv, .int .i64 0, .int .i64 0, .slice ra rn rc] 42)
  have HX34 := hid hx4
  have HN4 := hid hn4
  clear ho hes hx3 hx4 hn4
  go_wp2_with fail
  generalize w3.alloc (.cells #[.int .i64 vv.ht, .int .i64 vv.hv, .int .i64 0, .int .i64 0, .slice ra rn rc] 42) = w4 at *
  obtain ⟨p4, hp4⟩ : ∃ p, p = w3.heap.size := ⟨_, rfl⟩
  rw [← hp4] at HN4 ⊢
  have HP4 := hid hp4
  clear hp4
  refine Calls.mono (HBA.out w4 (HX3.out.trans' HX34.out)) ?_
  rintro e w5 ⟨rfl, hx5⟩
  have h4 := (hx5.block p4 (Array.getElem?_eq_some_iff.1 HN4.out).1).trans HN4.out
  have hpne : p ≠ p4 := by have h1 := HPL.out; have h2 := HX13.out.size; have := HP4.out; omega
  obtain ⟨⟨c0, c1, c2, c3, c4⟩, cfz, cl⟩ := cells5 h4
  have f2 := cfz 2
  have f3 := cfz 3
  have hS := ((SetG.start h4).step 2 (.int .i64 vv.i)).step 3 (.int .i64 vv.t)
  have h0 := ((HX13.out.trans' (HX34.out.trans' hx5)).block p HPL.out).trans HN0.out
  have h0' := (hS.frm.block p (Array.getElem?_eq_some_iff.1 h0).1 hpne).trans h0
  obtain ⟨⟨d0, d1, d2, d3, d4⟩, dfz, dl⟩ := cells5 h0
  have g0 := dfz 0
  have g1 := dfz 1
  have g2 := dfz 2
  have g3 := dfz 3
  have g4 := dfz 4
  have HX5 := hid (HX3.out.trans' (HX34.out.trans' hx5))
  have HX35 := hid (HX34.out.trans' hx5)
  have HS := hid hS
  have HS0 := hid (((((SetG.start h0').step 0 (.int .i64 vv.ht)).step 1 (.int .i64 vv.hv)).step 2 (.int .i64 vv.i)).step 3 (.int .i64 vv.t) |>.step 4 (.slice ra rn rc))
  have HNE := hid hpne
  clear h4 cfz hS h0 h0' dfz hx5
  go_wp2
  refine bodyPost_ret_by (results_cell_row rfl _ _ p _ _ _ (Tryz.prog.underlying 42).get! rfl HS0.out.obj (by kernel_rfl) (by kernel_rfl) (by kernel_rfl)) rfl ?_
  have z1 := HX12.out.size
  have z2 := HPL.out
  have z3 := HP4.out
  have z4 := HX35.out.size
  have z5 := HS.out.size
  have z6 := HS0.out.size
  refine ⟨ra, rn, rc, rfl, HO.out.keep fun q hq hl => ⟨⟨Nat.le_trans HZ2.out hq.1, by omega⟩, ?_⟩, ?_⟩
  · have h1 : q ≠ p4 := by omega
    have h2 : q ≠ p := by have := hq.1; omega
    have hl5 := Nat.lt_of_lt_of_le hl z4
    exact (HS0.out.frm.block q (by omega) h2).trans ((HS.out.frm.block q hl5 h1).trans (HX35.out.block q hl))
  exact ext_frm (ext_frm HX5.out HS.out.frm fun q hq => by rw [show q = p4 from hq]; have := HX3.out.size; omega) HS0.out.frm fun q hq => by rw [show q = p from hq, HP.out]; exact Nat.le_refl _
def SamePostV (a b : Wv) (w : World) (e : Ending) (w' : World) : Prop := ∃ bb, e = .returned (.bool bb) ∧ (bb = true ↔ a = b) ∧ Ext w w'
theorem SamePostV.no {a b : Wv} {w w' : World} (h : a ≠ b) (hx : Ext w w') : SamePostV a b w (.returned (.bool false)) w' := ⟨false, rfl, ⟨(fun e => by cases e), fun e => absurd e h⟩, hx⟩
set_option maxRecDepth 100000 in
set_option maxHeartbeats 4000000 in
theorem sameV_any {F G : Nat → Prop} {w : World} {u v : Wv} {a a' : Option Addr} {n n' c c' : Nat} (h : EsF F w a n c u.l) (h' : EsF G w a' n' c' v.l) :
    Calls Tryz.prog 22 #[vwV u (.slice a n c), vwV v (.slice a' n' c')] w (SamePostV u v w) := by
  have hx0 : Ext w ((w.alloc (.cells #[.int .i64 u.ht, .int .i64 u.hv, .int .i64 u.i, .int .i64 u.t, .slice a n c] 42)).alloc (.cells #[.int .i64 v.ht, .int .i64 v.hv, .int .i64 v.i, .int .i64 v.t, .slice a' n' c'] 42)) := Ext.trans' (ext_alloc _ _) (ext_alloc _ _)
  have HSA := hid (Same_any (h.below hx0) (h'.below hx0))
  have HX0 := hid hx0
  clear h h' hx0
  obtain ⟨uh, ug, ui, ut, ul⟩ := u
  obtain ⟨vh, vg, vi, vt, vl⟩ := v
  unfold vwV
  dsimp only at *
  by_cases e1 : uh = vh
  · by_cases e2 : ug = vg
    · by_cases e3 : ui = vi
      · by_cases e4 : ut = vt
        · subst e1; subst e2; subst e3; subst e4
          go_enter Tryz.func22, Tryz.ntmps22
          go_wp2_with fail
          refine Calls.mono HSA.out ?_
          rintro e w1 ⟨bb, rfl, hbb, q, hq⟩
          have HBB := hid hbb
          have HXQ := hid (HX0.out.trans' (show Ext _ w1 by rw [hq]; exact ext_drewN _ _))
          clear hbb hq
          go_wp2
          go_ret
          exact ⟨bb, rfl, ⟨fun h => by rw [HBB.out.1 h], fun h => HBB.out.2 (by injection h)⟩, HXQ.out⟩
        have b4 : (ut == vt) = false := by simpa using e4
        have HN := hid (show (⟨uh, ug, ui, ut, ul⟩ : Wv) ≠ ⟨vh, vg, vi, vt, vl⟩ from fun h => by injection h with _ _ _ h _; exact e4 h)
        subst e1; subst e2; subst e3
        clear e4 HSA
        go_enter Tryz.func22, Tryz.ntmps22
        go_wp2
        go_ret
        exact SamePostV.no HN.out HX0.out
      have b4 : (ui == vi) = false := by simpa using e3
      have HN := hid (show (⟨uh, ug, ui, ut, ul⟩ : Wv) ≠ ⟨vh, vg, vi, vt, vl⟩ from fun h => by injection h with _ _ h _ _; exact e3 h)
      subst e1; subst e2
      clear e3 HSA
      go_enter Tryz.func22, Tryz.ntmps22
      go_wp2
      go_ret
      exact SamePostV.no HN.out HX0.out
    have b4 : (ug == vg) = false := by simpa using e2
    have HN := hid (show (⟨uh, ug, ui, ut, ul⟩ : Wv) ≠ ⟨vh, vg, vi, vt, vl⟩ from fun h => by injection h with _ h _ _ _; exact e2 h)
    subst e1
    clear e2 HSA
    go_enter Tryz.func22, Tryz.ntmps22
    go_wp2
    go_ret
    exact SamePostV.no HN.out HX0.out
  have b4 : (uh == vh) = false := by simpa using e1
  have HN := hid (show (⟨uh, ug, ui, ut, ul⟩ : Wv) ≠ ⟨vh, vg, vi, vt, vl⟩ from fun h => by injection h with h _ _ _ _; exact e1 h)
  clear e1 HSA
  go_enter Tryz.func22, Tryz.ntmps22
  go_wp2
  go_ret
  exact SamePostV.no HN.out HX0.out
end Go.Proofs.YtikjckdoldiddaaGreatDoor

/- A row of views of the call's own. -/
namespace Go.Proofs.YtikjckdoldiddaaGreatDoor
open Go.RowKit Go.Maps
set_option linter.unusedVariables false
set_option linter.unusedSimpArgs false
attribute [local go_sem] bmax2 bmin2 bmax_two bmin_two

theorem info_vw : (Tryz.prog.info? 42).map (fun i => (i.zero, i.size, i.bytes)) = some (some (.agg #[.int .i64 0, .int .i64 0, .int .i64 0, .int .i64 0, .slice none 0 0]), 5, 56) := by kernel_rfl
abbrev VH := Option Addr × Nat × Nat
def vcell (v : Wv) (h : VH) : List Value := [.int .i64 v.ht, .int .i64 v.hv, .int .i64 v.i, .int .i64 v.t, .slice h.1 h.2.1 h.2.2]
def rawV : List Wv → List VH → List Value
  | v :: L, h :: H => vcell v h ++ rawV L H
  | _, _ => []
theorem rawV_snoc : ∀ (L : List Wv) (H : List VH) (v : Wv) (x : VH), H.length = L.length → rawV (L ++ [v]) (H ++ [x]) = rawV L H ++ vcell v x := by
  intro L
  induction L with
  | nil =>
    intro H v x h
    have : H = [] := List.eq_nil_of_length_eq_zero h
    subst this
    show vcell v x ++ [] = [] ++ vcell v x
    simp
  | cons u L ih =>
    intro H v x h
    cases H with
    | nil => cases h
    | cons y H =>
      show vcell u y ++ rawV (L ++ [v]) (H ++ [x]) = vcell u y ++ rawV L H ++ vcell v x
      rw [ih H v x (by simpa using h), List.append_assoc]
theorem rawV_get : ∀ (L : List Wv) (H : List VH) (k i : Nat) (h1 : k < L.length) (h2 : k < H.length), i < 5 → (rawV L H)[k * 5 + i]? = (vcell L[k] H[k])[i]? := by
  intro L
  induction L with
  | nil => intro H k i h1; cases h1
  | cons v L ih =>
    intro H k i h1 h2 hi
    cases H with
    | nil => cases h2
    | cons x H =>
      unfold rawV
      have hl : (vcell v x).length = 5 := rfl
      cases k with
      | zero => rw [List.getElem?_append_left (by rw [hl]; omega)]; simp
      | succ k =>
        rw [List.getElem?_append_right (by rw [hl]; omega), hl, show (k + 1) * 5 + i - 5 = k * 5 + i by omega]
        exact ih H k i (by simpa using h1) (by simpa using h2) hi
/-- Views in a row of the call's own, their entries in other blocks, which meet F. -/
def VsR (F : Nat → Prop) (B : Nat) (w : World) (v : Value) (L : List Wv) : Prop :=
  ∃ H : List VH, H.length = L.length ∧ w.ownsRow B 42 5 v L.length (rawV L H) ∧ ∀ k (h1 : k < H.length) (h2 : k < L.length), EsF (Off F v) w H[k].1 H[k].2.1 H[k].2.2 L[k].l
theorem VsR.slice_ {F : Nat → Prop} {B : Nat} {w : World} {v : Value} {L : List Wv} (h : VsR F B w v L) : ∃ a c, v = .slice a L.length c := by
  obtain ⟨H, h1, h2, -⟩ := h
  rcases h2.2 with ⟨e1, e2⟩ | ⟨g, c, cur, e1, -⟩
  · exact ⟨_, _, by rw [e1, e2]⟩
  exact ⟨_, _, e1⟩
theorem VsR.at_ {F : Nat → Prop} {B : Nat} {w : World} {v : Value} {L : List Wv} (h : VsR F B w v L) : ∀ q, v.ownBlock = some q → B ≤ q ∧ q < w.heap.size := by
  obtain ⟨H, h1, h2, -⟩ := h
  exact h2.lt
theorem VsR.nil_ (F : Nat → Prop) (B : Nat) (w : World) : VsR F B w (.slice none 0 0) [] :=
  ⟨[], rfl, World.ownsRow_nil _ _ _ _, (fun k h1 => absurd h1 (Nat.not_lt_zero _))⟩
theorem VsR.keep {F G : Nat → Prop} {B : Nat} {w w' : World} {v : Value} {L : List Wv} (h : VsR F B w v L) (hB : ∀ q, v.ownBlock = some q → w'.heap[q]? = w.heap[q]?) (hF : ∀ k, F k → k < w.heap.size → G k ∧ w'.heap[k]? = w.heap[k]?) : VsR G B w' v L := by
  obtain ⟨H, h1, h2, h3⟩ := h
  exact ⟨H, h1, own_keep h2 hB, fun k k1 k2 => (h3 k k1 k2).keep fun q hq hl => ⟨⟨(hF q hq.1 hl).1, hq.2⟩, (hF q hq.1 hl).2⟩⟩
theorem VsR.ext {F : Nat → Prop} {B : Nat} {w w' : World} {v : Value} {L : List Wv} (h : VsR F B w v L) (hx : Ext w w') : VsR F B w' v L := h.keep (fun q hq => hx.block q (h.at_ q hq).2) fun k hk hq => ⟨hk, hx.block k hq⟩
theorem vcell_one (v : Wv) (h : VH) : ∀ u ∈ vcell v h, u.oneCell' = true := by
  intro u hu
  unfold vcell at hu
  simp only [List.mem_cons, List.not_mem_nil, or_false] at hu
  rcases hu with rfl | rfl | rfl | rfl | rfl <;> rfl
/-- One view behind a row. -/
theorem wpList_appV {w : World} {ops : Array Oper} {rest : List Oper} {o : Oper} {a : Act} {Q : Exit → Act → World → Prop} (hgd : o.guard = none) (s x : Operand)
    (ho : o.op = .call { callee := .builtin .append, args := #[s, x], argTypes := #[30, 30] })
    (F : Nat → Prop) (B : Nat) (v : Value) (L : List Wv) (hs : a.eval s = v) (hown : VsR F B w v L) (g : Nat) (hx : a.eval x = .slice (some ⟨g, 0, none⟩) 1 1) (u : Wv) (y : VH)
    (hc : RowAt w (some ⟨g, 0, none⟩) 1 5 (vcell u y)) (hy : EsF (Off F v) w y.1 y.2.1 y.2.2 u.l) (hlen : L.length ≤ 1000000000000) (hB : B ≤ w.heap.size)
    (h : ∀ v' w', VsR F B w' v' (L ++ [u]) → Frm (fun q => v.ownBlock = some q) w w' → (∀ q, v'.ownBlock = some q → v.ownBlock = some q ∨ q = w.heap.size) → wpList Tryz.prog ops Q rest (a.put o.dst v') w') : wpList Tryz.prog ops Q (o :: rest) a w := by
  obtain ⟨H, h1, h2, h3⟩ := hown
  obtain ⟨i, hi, hz, hz1, hz2⟩ := info_parts info_vw
  refine wpList_append_own_at w hgd s x 30 ho B 42 i (.agg #[.int .i64 0, .int .i64 0, .int .i64 0, .int .i64 0, .slice none 0 0]) 5 56 Tryz.underlying30 hi hz hz1 hz2 rfl (by decide) v L.length (rawV L H) hs h2
    ⟨g, 0, none⟩ 1 1 (vcell u y) hx hc.1 (hc.2.2 _ rfl) (vcell_one u y) (by unfold maxLen; omega) (by omega) hB fun v' w' q1 q2 q3 q4 => ?_
  have hk : ∀ q, Off F v q → q < w.heap.size → Off F v' q ∧ w'.heap[q]? = w.heap[q]? := fun q hq hl => ⟨⟨hq.1, fun e => by
    rcases q4 with q4 | q4
    · rw [q4] at e; exact hq.2 e
    rw [q4] at e; injection e with e; omega⟩, q2.block q hl fun e => hq.2 e.symm⟩
  refine h v' w' ⟨H ++ [y], by rw [List.length_append, List.length_append, h1]; rfl, by rw [List.length_append, rawV_snoc _ _ _ _ h1]; exact q1, fun j j1 j2 => ?_⟩ ⟨q2.os, q2.tape, q2.output, q2.size, fun k hk hn => q2.block k hk fun e => hn e.symm⟩ fun q hq => ?_
  · rw [List.length_append, List.length_cons, List.length_nil] at j1
    by_cases hj : j < H.length
    · have hj2 : j < L.length := by omega
      rw [List.getElem_append_left hj, List.getElem_append_left hj2]
      exact (h3 j hj hj2).keep hk
    obtain rfl : j = H.length := by omega
    rw [List.getElem_append_right (by omega), List.getElem_append_right (by omega)]
    simp only [Nat.sub_self, h1]
    exact hy.keep hk
  rcases q4 with q4 | q4
  · exact .inl (by rw [← q4]; exact hq)
  rw [q4] at hq; injection hq with hq; exact .inr hq.symm
end Go.Proofs.YtikjckdoldiddaaGreatDoor

/- The walk of Append. -/
namespace Go.Proofs.YtikjckdoldiddaaGreatDoor
open Go.RowKit Go.Maps
set_option linter.unusedVariables false
set_option linter.unusedSimpArgs false
attribute [local go_sem] bmax2 bmin2 bmax_two bmin_two

/-- A view of the call's own, at p: its entries in a row of the call's own. -/
def NextAt (F : Nat → Prop) (B : Nat) (w : World) (p : Nat) (v : Wv) : Prop :=
  ∃ a c, w.heap[p]? = some (.cells #[.int .i64 v.ht, .int .i64 v.hv, .int .i64 v.i, .int .i64 v.t, .slice a v.l.length c] 62 (0, 0)) ∧ RowE F B w (.slice a v.l.length c) v.l
theorem NextAt.vw {F : Nat → Prop} {B : Nat} {w : World} {p : Nat} {v : Wv} (h : NextAt F B w p v) (hf : v.Fine 100000000) : ∃ a c, VwAt (fun q => F q ∨ (B ≤ q ∧ q < w.heap.size)) w p v a v.l.length c := by
  obtain ⟨a, c, h1, h2⟩ := h
  have hm := hf.many
  exact ⟨a, c, VwAt.of h1 (h2.es (by omega)) hf (by omega)⟩
theorem NextAt.ext {F : Nat → Prop} {B : Nat} {w w' : World} {p : Nat} {v : Wv} (h : NextAt F B w p v) (hx : Ext w w') : NextAt F B w' p v := by
  obtain ⟨a, c, h1, h2⟩ := h
  exact ⟨a, c, (hx.block p (Array.getElem?_eq_some_iff.1 h1).1).trans h1, h2.ext hx⟩
theorem NextAt.more {F G : Nat → Prop} {B : Nat} {w : World} {p : Nat} {v : Wv} (h : NextAt F B w p v) (hF : ∀ k, F k → G k) : NextAt G B w p v := by
  obtain ⟨a, c, h1, h2⟩ := h
  exact ⟨a, c, h1, h2.more hF⟩
theorem Wv.adds_snoc {v n : Wv} {l : List Ent} (h : v.adds l = some n) (e : Ent) : v.adds (l ++ [e]) = if n.good e = true then some { n with l := n.l ++ [e] } else none := by
  rw [Wv.adds_append, h]
  show n.adds [e] = _
  unfold Wv.adds
  split
  · rfl
  rfl
theorem Wv.adds_bad {v n : Wv} {l : List Ent} {k : Nat} (hk : k < l.length) (h : v.adds (l.take k) = some n) (hb : n.good l[k] = false) : v.adds l = none := by
  have e : l = l.take (k + 1) ++ l.drop (k + 1) := (List.take_append_drop _ _).symm
  rw [e, Wv.adds_append, List.take_succ_eq_append_getElem hk, Wv.adds_snoc h, if_neg (by rw [hb]; simp)]
  rfl
theorem wtE_many (l : List Ent) : 50 * l.length ≤ wtE l := by
  unfold wtE
  induction l with
  | nil => exact Nat.le_refl _
  | cons e r ih => rw [List.map_cons, List.sum_cons, List.length_cons]; omega
theorem Lo.Fit.adds {v : Lo} {k m : Nat} (h : v.Fit k m) (hm : m ≤ 500000000) {l : List Ent} (hl : wtE l ≤ 500000000) {j : Nat} {n : Wv} (ha : v.s.v.adds (l.take j) = some n) : n.Fine 100000000 := by
  have e := Wv.adds_eq _ _ _ ha
  have hlen := Wv.adds_len _ _ _ ha
  have h1 := v.s.v.wt_many
  have h2 := h.wt
  have h3 := wtE_many l
  subst e
  refine ⟨h.i64, h.big, ?_, fun x hx => ?_⟩
  · show (v.s.v.l ++ l.take j).length ≤ _
    rw [List.length_append, List.length_take]; omega
  rcases List.mem_append.1 hx with hx | hx
  · exact h.len x hx
  exact hlen x hx
theorem LoX.of {A : Nat → Prop} {w : World} {g dg : Nat} {v : Lo} (h : LoAt A w g dg v) : ∃ D G, LoX D G w g dg v ∧ (∀ q, D q → A q) ∧ (∀ q, G q → A q) ∧ A g := by
  obtain ⟨D, G, h1, h2, h3, h4, h5, h6⟩ := h
  exact ⟨D, G, ⟨h1, h2, fun q hq => (h3 q hq).2, fun q hq => ⟨(h4 q hq).2, h6 q (h4 q hq).1⟩⟩, fun q hq => (h3 q hq).1, fun q hq => (h4 q hq).1, h5⟩
theorem LoX.ext {D G : Nat → Prop} {w w' : World} {g dg : Nat} {v : Lo} (h : LoX D G w g dg v) (hx : Ext w w') : LoX D G w' g dg v := by
  obtain ⟨h1, h2, h3, h4⟩ := h
  exact ⟨h1.below hx, h2.below hx, h3, fun q hq => ⟨(h4 q hq).1, Nat.lt_of_lt_of_le (h4 q hq).2 hx.size⟩⟩
theorem LoX.at_ {A D G : Nat → Prop} {w : World} {g dg : Nat} {v : Lo} (h : LoX D G w g dg v) (hD : ∀ q, D q → A q) (hG : ∀ q, G q → A q) (hg : A g) (hl : ∀ q, A q → q < w.heap.size) : LoAt A w g dg v :=
  ⟨D, G, h.1, h.2.1, fun q hq => ⟨hD q hq, h.2.2.1 q hq⟩, fun q hq => ⟨hG q hq, (h.2.2.2 q hq).1⟩, hg, hl⟩
/-- A view is stored into a log. -/
theorem LoX.set5 {D G E : Nat → Prop} {w : World} {g dg : Nat} {v : Lo} (h : LoX D G w g dg v) (n : Wv) {a : Option Addr} {ln lc : Nat} (hes : EsF E w a ln lc n.l) (hD : ∀ q, D q → ¬ E q) (hE : ∀ q, E q → q ≠ g ∧ q < w.heap.size) :
    LoX D E (five w g n a ln lc) g dg (v.setV n) ∧ Frm (fun q => q = g) w (five w g n a ln lc) ∧ (five w g n a ln lc).heap.size = w.heap.size := by
  obtain ⟨h1, h2, h3, h4⟩ := h
  obtain ⟨la, ln0, lc0, o1, o2⟩ := h2
  have hS := nine_set o1 n a ln lc
  refine ⟨⟨h1.frm hS.frm fun q hq e => (h3 q hq).1 e, ⟨a, ln, lc, hS.obj, hes.keep fun q hq hl => ⟨hq, hS.frm.block q hl fun e => (hE q hq).1 e⟩⟩, fun q hq => ⟨(h3 q hq).1, hD q hq⟩, fun q hq => ⟨(hE q hq).1, ?_⟩⟩, hS.frm, hS.size⟩
  rw [hS.size]; exact (hE q hq).2
set_option maxRecDepth 100000 in
set_option maxHeartbeats 8000000 in
theorem LApp_any {A F : Nat → Prop} {w : World} {g dg : Nat} {v : Lo} {k0 m0 : Nat} (h : LoAt A w g dg v) (hf : v.Fit k0 m0) (hk0 : k0 ≤ 5000) (hm0 : m0 ≤ 500000000) {a : Option Addr} {n c : Nat} {l : List Ent} (hl : EsF F w a n c l) (hwl : wtE l ≤ 500000000) (hT : TabP w) :
    Calls Tryz.prog 21 #[.pointer (some ⟨g, 0, none⟩), .slice a n c] w (LoPost A g dg (v.app l) w) := by
  have HLA := hid h
  have HF := hid hf
  have HWL := hid hwl
  have HES := hid hl
  have HT := hid hT
  have HAD := hid (fun (j : Nat) (n : Wv) (ha : v.s.v.adds (l.take j) = some n) => hf.adds hm0 hwl ha)
  obtain ⟨D, G, hX, hDA, hGA, hgA⟩ := LoX.of h
  have hAl := h.lt
  have HX0 := hid hX
  have HSUB := hid (show (∀ q, D q → A q) ∧ (∀ q, G q → A q) ∧ A g ∧ ∀ q, A q → q < w.heap.size from ⟨hDA, hGA, hgA, hAl⟩)
  have HWX := hid (fun W (hW : Ext w W) {E : Nat → Prop} {ba : Option Addr} {bn bc : Nat} (hb : ByF E W ba bn bc (entsB l)) => write_x (hX.ext hW) hf.ok (by have := hf.acts; omega) (by have := hf.tt; omega) (by have := hf.sz; omega) hb (by have h1 := entsB_len l; have h2 : (l.map fun e => 50 + e.d.length).sum = wtE l := rfl; omega) (hT.ext hW))
  have hn := hl.1
  have hll := wtE_many l
  have hln : n ≤ 10000000 := by omega
  have HM := hid (lmade_any hX.2.1.cells.1)
  have hgl := hX.2.1.lt
  obtain ⟨la, ln, lc, hobj, hes⟩ := hX.2.1
  obtain ⟨⟨c0, c1, c2, c3, c4, -⟩, -, -⟩ := cells9 hobj
  have hvl := hes.1
  have HCE := hid (fun W (hW : Ext w W) => cloneE_row (hes.below hW))
  have HC4 := hid (fun W (hW : Ext w W) => (hW.cell (p := ⟨g, 4, none⟩) hgl).trans c4)
  obtain ⟨vv, hvv⟩ : ∃ vv, vv = v.s.v := ⟨_, rfl⟩
  have HVV := hid hvv
  rw [← hvv] at c0 c1 c2 c3 hobj hes hvl HAD HCE
  obtain ⟨r, hr⟩ : ∃ r, r = v.app l := ⟨_, rfl⟩
  rw [← hr]
  have HR := hid (show r = v.appR l (vv.adds l) by rw [hr, hvv]; rfl)
  have hx1 := ext_alloc w (.cells #[.int .i64 vv.ht, .int .i64 vv.hv, .int .i64 vv.i, .int .i64 vv.t, .slice la ln lc] 62)
  have hn1 := heap_alloc_new w (.cells #[.int .i64 vv.ht, .int .i64 vv.hv, .int .i64 vv.i, .int .i64 vv.t, .slice la ln lc] 62)
  have HX1 := hid hx1
  have HN1 := hid hn1
  have HN := hid hn
  have HVL := hid hvl
  clear h hf hk0 hm0 hl hwl hT hX hDA hGA hgA hAl hobj hes hvv hr hx1 hn1 hll hn hvl
  have HGW := hid hgl
  go_enter Tryz.func21, Tryz.ntmps21
  go_wp2_with fail
  refine Calls.mono HM.out ?_
  rintro e w ⟨rfl, rfl⟩
  go_wp2_with fail
  generalize w.alloc (.cells #[.int .i64 vv.ht, .int .i64 vv.hv, .int .i64 vv.i, .int .i64 vv.t, .slice la ln lc] 62) = w1 at *
  obtain ⟨p, hp⟩ : ∃ p, p = w.heap.size := ⟨_, rfl⟩
  rw [← hp] at HN1 ⊢
  have HP := hid (show w.heap.size ≤ p ∧ p < w1.heap.size ∧ g ≠ p from ⟨by omega, (Array.getElem?_eq_some_iff.1 HN1.out).1, by have := HGW.out; omega⟩)
  clear hp c0 c1 c2 c3 c4 HC4 hgl
  refine Calls.mono (HCE.out w1 HX1.out) ?_
  rintro e w2 ⟨vr, rfl, hrow, hx2⟩
  obtain ⟨ra, rc, rfl⟩ := hrow.slice_
  have HX2 := hid (HX1.out.trans' hx2)
  have hp2 := (hx2.block p HP.out.2.1).trans HN1.out
  obtain ⟨⟨d0, d1, d2, d3, d4⟩, dfz, dl⟩ := vcells5 hp2
  have f4 := dfz 4
  have hS := (SetG.start hp2).step 4 (.slice ra vv.l.length rc)
  have HS := hid hS
  obtain ⟨B, hB⟩ : ∃ B, B = w1.heap.size := ⟨_, rfl⟩
  rw [← hB] at hrow
  have HB := hid (show w.heap.size ≤ B ∧ p < B ∧ B ≤ w2.heap.size from ⟨by rw [hB]; exact HX1.out.size, by rw [hB]; exact HP.out.2.1, by rw [hB]; exact hx2.size⟩)
  have HB1 := hid hB
  have hnx : NextAt (fun q => G q ∨ B ≤ q) B (w2.setCell ⟨p, 4, none⟩ (.slice ra vv.l.length rc)) p vv := by
    refine ⟨ra, rc, by have h := hS.obj; simpa using h, hrow.keep (fun q h1 h2 => hS.frm.block q h2 (by show ¬ q = p; have := HB.out; omega)) fun q h1 h2 => ⟨.inl h1.1, hS.frm.block q h2 (by show ¬ q = p; have h3 := h1.2; have h4 := HP.out.2.1; intro e; subst e; have h5 := h1.1; have := (HX0.out.2.2.2 q h5).2; have := HP.out.1; omega)⟩⟩
  have HNX := hid hnx
  have HX3 := hid (ext_frm HX2.out hS.frm fun q hq => by rw [show q = p from hq]; exact HP.out.1)
  have HBS := hid (show B ≤ (w2.setCell ⟨p, 4, none⟩ (.slice ra vv.l.length rc)).heap.size by rw [hS.size]; exact HB.out.2.2)
  clear hrow hx2 hp2 dfz hS hB hnx
  go_wp2
  clear d0 d1 d2 d3 d4 f4 dl
  generalize w2.setCell ⟨p, 4, none⟩ (.slice ra vv.l.length rc) = w3 at *
  have HSTART := hid (And.intro HX3.out (And.intro HNX.out HBS.out))
  clear HNX HX3 HBS
  go_loopw [7, 25] (fun _ z wr => ∃ (k : Nat) (vk : Wv), k ≤ n ∧ z = .int .i64 (k : Int) ∧ Hid (vv.adds (l.take k) = some vk) ∧ Hid (NextAt (fun q => G q ∨ B ≤ q) B wr p vk) ∧ Hid (Ext w wr ∧ B ≤ wr.heap.size)) (fun _ z _ => n - (intOf z).toNat)
  case atStart => exact ⟨0, vv, Nat.zero_le _, rfl, rfl, HSTART.out.2.1, HSTART.out.1, HSTART.out.2.2⟩
  obtain ⟨k, vk, hk, rfl, HA, HNX, HXB⟩ := hrel
  by_cases hlt : k < n
  · obtain ⟨b, o, rfl, -, -, hkl, dd1, dd2, ec0, ec1, a', n', c', ec2, hd⟩ := (HES.out.below HXB.out.1).at_ hlt
    have hgd := fun (hb : vk.good l[k] = false) => Wv.adds_bad hkl HA.out hb
    have hgo : vk.good l[k] = true → vv.adds (l.take (k + 1)) = some { vk with l := vk.l ++ [l[k]] } := fun hb => by rw [List.take_succ_eq_append_getElem hkl, Wv.adds_snoc HA.out, if_pos hb]
    have HFI := hid (HAD.out k vk HA.out)
    obtain ⟨x, hx⟩ : ∃ x, x = l[k] := ⟨_, rfl⟩
    rw [← hx] at dd1 dd2 ec0 ec1 hd hgd hgo
    have HGD := hid hgd
    have HGO := hid hgo
    have HD64 := hid (And.intro dd1 dd2)
    have hx4 := ext_alloc wr (.cells #[.int .i64 x.i, .int .i64 x.t, .slice a' n' c'] 46)
    have hn4 := heap_alloc_new wr (.cells #[.int .i64 x.i, .int .i64 x.t, .slice a' n' c'] 46)
    obtain ⟨va, vc, hvw⟩ := (HNX.out.ext hx4).vw HFI.out
    have HG := hid (goodE_any hvw x (ea := a') (en := n') (ec := c') hd.1)
    have HX4 := hid hx4
    have HN4 := hid hn4
    have HDT := hid (hd.below hx4)
    have hk0 : (0 : Int) ≤ (k : Int) := by omega
    clear hgd hgo dd1 dd2 hx4 hn4 hvw hd hx
    go_wp2_with fail
    generalize wr.alloc (.cells #[.int .i64 x.i, .int .i64 x.t, .slice a' n' c'] 46) = w4 at *
    obtain ⟨pe, hpe⟩ : ∃ pe, pe = wr.heap.size := ⟨_, rfl⟩
    rw [← hpe] at HN4 ⊢
    have HPE := hid (show B ≤ pe ∧ wr.heap.size ≤ pe ∧ p < pe from ⟨by have := HXB.out.2; omega, by omega, by have := HXB.out.2; have := HB.out.2.1; omega⟩)
    clear hpe ec0 ec1 ec2
    refine Calls.mono HG.out ?_
    rintro e w5 ⟨rfl, hx5⟩
    have HX5 := hid (HX4.out.trans' hx5)
    have HDT5 := hid (HDT.out.below hx5)
    have hp5 := (hx5.block pe (Array.getElem?_eq_some_iff.1 HN4.out).1).trans HN4.out
    have HN5 := hid hp5
    clear hx5 HDT HN4 HG
    cases hgv : vk.good x with
    | false =>
      have HRR := hid (HR.out.trans (by rw [HGD.out hgv]))
      clear hp5 hgv
      go_wp2
      go_ret
      rw [HRR.out]
      exact HLA.out.same (HXB.out.1.trans' HX5.out) 51
    | true =>
      have HGK := hid (HGO.out hgv)
      obtain ⟨g0, g1, g2⟩ := gcells3 hp5
      have HPL := hid (Array.getElem?_eq_some_iff.1 hp5).1
      have hpl := HPL.out
      clear hp5 hgv HGD HGO
      go_wp2_with fail
      refine Calls.mono (cloneB_any HDT5.out) ?_
      rintro e w6 ⟨a6, n6, c6, rfl, hb6, hx6⟩
      clear g0 g1 g2 hpl
      have hp6 := (hx6.block pe HPL.out).trans HN5.out
      obtain ⟨g0, g1, g2⟩ := gcells3 hp6
      have hpl := (Array.getElem?_eq_some_iff.1 hp6).1
      have fz2 : w6.frozen? ⟨pe, 2, none⟩ = false := by simp [World.frozen?, hp6]
      have hS := (SetG.start hp6).step 2 (.slice a6 n6 c6)
      have hx7 : Ext wr (w6.setCell ⟨pe, 2, none⟩ (.slice a6 n6 c6)) := ext_frm (HX5.out.trans' hx6) hS.frm fun q hq => by rw [show q = pe from hq]; exact HPE.out.2.1
      have hx8 : Ext wr ((w6.setCell ⟨pe, 2, none⟩ (.slice a6 n6 c6)).alloc (.cells #[.int .i64 x.i, .int .i64 x.t, .slice a6 n6 c6] 46)) := hx7.trans' (ext_alloc _ _)
      obtain ⟨pa, pc, hpo, hrow⟩ := HNX.out
      have hob := hrow.at_
      obtain ⟨⟨r0, r1, r2, r3, r4⟩, -, rl⟩ := vcells5 ((hx7.block p (Array.getElem?_eq_some_iff.1 hpo).1).trans hpo)
      have HPO := hid ((hx8.block p (Array.getElem?_eq_some_iff.1 hpo).1).trans hpo)
      have HROW := hid (hrow.ext hx8)
      have hcw := wnews_row (w6.setCell ⟨pe, 2, none⟩ (.slice a6 n6 c6)) [.int .i64 x.i, .int .i64 x.t, .slice a6 n6 c6] 1 3 46 rfl
      rw [hS.size] at hcw
      have HCW := hid hcw
      have hxa := ext_alloc (w6.setCell ⟨pe, 2, none⟩ (.slice a6 n6 c6)) (.cells #[.int .i64 x.i, .int .i64 x.t, .slice a6 n6 c6] 46)
      have HY := hid (hb6.keep (w' := (w6.setCell ⟨pe, 2, none⟩ (.slice a6 n6 c6)).alloc (.cells #[.int .i64 x.i, .int .i64 x.t, .slice a6 n6 c6] 46)) (G := Off (fun q => G q ∨ B ≤ q) (.slice pa vk.l.length pc)) fun q hq hl => ⟨⟨.inr (by have h1 := hq.1; have h2 := HPE.out.1; have h3 := HPL.out; omega), fun e => by have h1 := (hob q e).2; have h2 := HX5.out.size; have h3 := hq.1; omega⟩, by
        have hne : q ≠ pe := by have h1 := hq.1; have h3 := HPL.out; omega
        rw [hxa.block q (by rw [hS.size]; exact hl)]
        exact hS.frm.block q hl hne⟩)
      have HSZ8 := hid (show B ≤ ((w6.setCell ⟨pe, 2, none⟩ (.slice a6 n6 c6)).alloc (.cells #[.int .i64 x.i, .int .i64 x.t, .slice a6 n6 c6] 46)).heap.size from Nat.le_trans HXB.out.2 hx8.size)
      have HX8 := hid hx8
      have hm := HFI.out.many
      clear hcw hb6 hx6 hp6 hS hx7 hx8 hpo hrow hob hxa
      go_wp2_with (at_builtin; refine wpList_appE rfl (.tmp 37) (.tmp 39) rfl (fun q => G q ∨ B ≤ q) B (.slice pa vk.l.length pc) vk.l rfl HROW.out w6.heap.size rfl ⟨x.i, x.t, a6, n6, c6⟩ x.d HCW.out HY.out HD64.out (by omega) HSZ8.out ?_; intro v9 w9 hrow9 hb9; have hrow9 : RowE (fun q => G q ∨ B ≤ q) B w9 v9 (vk.l ++ [x]) := hrow9; obtain ⟨a9, m9, c9, hv9, hm9⟩ : ∃ a m c, v9 = .slice a m c ∧ m = (vk.l ++ [x]).length := (by obtain ⟨a, c, h⟩ := hrow9.slice_; exact ⟨a, _, c, h, rfl⟩); subst hv9; have HM9 := hid hm9; have HROW9 := hid hrow9; have HB9 := hid hb9; have hp9 := (hb9.block p HB.out.2.1).trans HPO.out; have HS9 := hid ((SetG.start hp9).step 4 (.slice a9 m9 c9)); obtain ⟨⟨s0, s1, s2, s3, s4⟩, sfz, sl⟩ := vcells5 hp9; have sf4 := sfz 4; clear hrow9 hb9 hm9)
      generalize w9.setCell ⟨p, 4, none⟩ (.slice a9 m9 c9) = w10 at *
      clear s0 s1 s2 s3 s4 sf4 sl
      have hxx := HX8.out
      have hnx : NextAt (fun q => G q ∨ B ≤ q) B w10 p { vk with l := vk.l ++ [x] } := by
        refine ⟨a9, c9, by have h := HS9.out.obj; show _ = some (Obj.cells #[_, _, _, _, Value.slice a9 (vk.l ++ [x]).length c9] _ _); rw [← HM9.out]; simpa using h, RowE.keep (by show RowE _ _ _ (.slice a9 (vk.l ++ [x]).length c9) _; rw [← HM9.out]; exact HROW9.out) (fun q h1 h2 => HS9.out.frm.block q h2 (by show ¬ q = p; have := HB.out.2.1; omega)) fun q h1 h2 => ⟨h1, HS9.out.frm.block q h2 ?_⟩⟩
        show ¬ q = p
        rcases h1 with h1 | h1
        · have := (HX0.out.2.2.2 q h1).2; have := HP.out.1; omega
        have := HB.out.2.1; omega
      have hxf : Ext w w10 := by
        have e1 := HXB.out.1.trans' hxx
        have e2 : Ext w w9 := e1.trans (HB9.out.mono HB.out.1)
        exact ext_frm e2 HS9.out.frm fun q hq => by rw [show q = p from hq]; exact HP.out.1
      have HNX10 := hid hnx
      have HXF := hid (And.intro hxf (show B ≤ w10.heap.size by rw [HS9.out.size]; exact Nat.le_trans HSZ8.out HB9.out.size))
      clear hnx hxf hxx
      go_roundw
      case rel => exact ⟨k + 1, _, by omega, by go_num, HGK.out, HNX10.out, HXF.out⟩
      case measure => simp [intOf]; omega
  have hkn : k = n := by omega
  subst hkn
  have hak : vv.adds l = some vk := by have h := HA.out; rwa [List.take_of_length_le (by rw [← HN.out]; exact Nat.le_refl _)] at h
  have HRR := hid (HR.out.trans (by rw [hak]) : r = v.appR l (some vk))
  have hln4 := Wv.adds_len _ _ _ hak
  have HFI := hid (HAD.out k vk HA.out)
  have HX := hid HXB.out.1
  have HBW := hid HXB.out.2
  by_cases hn0 : k = 0
  · subst hn0
    have HR3 := hid (HRR.out.trans (by unfold Lo.appR; dsimp only; rw [if_pos (List.eq_nil_of_length_eq_zero HN.out.symm)]) : r = (0, v))
    clear hak hln4 HA HNX HXB hlt hk
    go_wp2
    go_ret
    rw [HR3.out]
    exact HLA.out.same HX.out 0
  have hnb : ((k : Int) == 0) = false := by simp; omega
  have hnc : (k == 0) = false := by simpa using hn0
  have hl0 : l ≠ [] := fun e => hn0 (by rw [HN.out, e]; rfl)
  have HR3 := hid (HRR.out.trans (by unfold Lo.appR; dsimp only; rw [if_neg hl0]) : r = if (v.write (entsB l)).1 = 0 then (0, (v.write (entsB l)).2.setV vk) else v.write (entsB l))
  have HER := hid (entR_any (HES.out.below HX.out) (by rw [← HN.out]; omega) hln4)
  obtain ⟨q, hq⟩ : ∃ q, q = v.write (entsB l) := ⟨_, rfl⟩
  rw [← hq] at HR3 HWX
  obtain ⟨q1, q2⟩ := q
  dsimp only at HR3 HWX
  clear hak hln4 HA HXB hlt hk hl0 hn0 hq HRR
  go_wp2_with fail
  refine Calls.mono HER.out ?_
  rintro e w4 ⟨b4, n4, c4, rfl, hb4, hx4⟩
  have HX4 := hid (HX.out.trans' hx4)
  have HW := hid (HWX.out w4 HX4.out hb4)
  have HNX4 := hid (HNX.out.ext hx4)
  have HBW4 := hid (Nat.le_trans HBW.out hx4.size)
  clear hb4 hx4 HER HNX HX HBW
  go_wp2_with fail
  refine Calls.mono HW.out ?_
  rintro e w5 ⟨rfl, ⟨D5, hD5, hl5⟩, hf5⟩
  have HD5 := hid hD5
  have HL5 := hid hl5
  have HF5 := hid hf5
  have hAp := HSUB.out.2.2.2
  have HPF := hid (show ¬ (D p ∨ p = g) from fun h => by
    rcases h with h | h
    · have := hAp p (HSUB.out.1 p h); have := HP.out.1; omega
    exact HP.out.2.2 h.symm)
  have hdone : LoXPost D G g dg (q1, q2) w4 (.returned (.int .i64 q1)) w5 := ⟨rfl, ⟨D5, hD5, hl5⟩, hf5⟩
  have HLP := hid (show LoPost A g dg (q1, q2) w (.returned (.int .i64 q1)) w5 from by
    have h1 := LoX.done (A := A) (w := w) (w' := w5) (r := (q1, q2)) (D := D) (G := G) (g := g) (dg := dg) (e := .returned (.int .i64 q1)) HSUB.out.1 HSUB.out.2.1 HSUB.out.2.2.1 HSUB.out.2.2.2 ⟨rfl, ⟨D5, fun q hq => (hD5 q hq).imp id fun h => ⟨Nat.le_trans HX4.out.size h.1, h.2⟩, hl5⟩, Frm.after_ext HX4.out hf5⟩
    exact h1)
  clear hD5 hl5 hf5 hAp hdone HW
  by_cases hq1 : q1 = 0
  · subst hq1
    have hr3 := HR3.out
    rw [if_pos rfl] at hr3
    have HR4 := hid hr3
    obtain ⟨pa, pc, hpo, hrow⟩ := HNX4.out
    obtain ⟨vn, hvn⟩ : ∃ vn, vn = vk.l.length := ⟨_, rfl⟩
    rw [← hvn] at hpo hrow
    have hp5 := (HF5.out.block p (Array.getElem?_eq_some_iff.1 hpo).1 HPF.out).trans hpo
    obtain ⟨⟨c0, c1, c2, c3, c4⟩, -, cl⟩ := vcells5 hp5
    have hm := HFI.out.many
    have hes := hrow.es (by omega)
    have HES5 := hid ((hes.lt).keep (w' := w5) (G := fun q => (G q ∨ B ≤ q) ∧ q < w4.heap.size) fun q hq hl => by
      have hq1 : G q ∨ B ≤ q := by
        rcases hq.1 with h | h
        · exact h
        exact .inr h.1
      refine ⟨⟨hq1, hq.2⟩, HF5.out.block q hl fun h => ?_⟩
      rcases hq1 with h1 | h1
      · rcases h with h | h
        · exact (HX0.out.2.2.1 q h).2 h1
        exact (HX0.out.2.2.2 q h1).1 h
      rcases h with h | h
      · have := HSUB.out.2.2.2 q (HSUB.out.1 q h); have := HB.out.1; omega
      have := HGW.out; have := HB.out.1; omega)
    have HS5 := hid (HL5.out.set5 vk HES5.out (fun q hq hE => by
      rcases HD5.out q hq with h | h
      · rcases hE.1 with h1 | h1
        · exact (HX0.out.2.2.1 q h).2 h1
        have := HSUB.out.2.2.2 q (HSUB.out.1 q h); have := HB.out.1; omega
      have := hE.2; omega) (fun q hE => ⟨by
      rcases hE.1 with h1 | h1
      · exact (HX0.out.2.2.2 q h1).1
      have := HGW.out; have := HB.out.1; omega, Nat.lt_of_lt_of_le hE.2 HF5.out.size⟩))
    obtain ⟨zla, zln, zlc, zobj, -⟩ := HL5.out.2.1
    obtain ⟨⟨z0, z1, z2, z3, z4, -⟩, zfz, zl⟩ := cells9 zobj
    have e0 := zfz 0
    have e1 := zfz 1
    have e2 := zfz 2
    have e3 := zfz 3
    have e4 := zfz 4
    clear hr3 HR3 hvn hpo hrow hp5 hm hes zobj zfz
    go_wp2
    go_ret
    rw [HR4.out]
    have z1 := HX4.out.size
    have z2 := HF5.out.size
    show LoPost A g dg (0, q2.setV vk) w _ (five w5 g vk pa vn pc)
    refine ⟨rfl, LoX.at_ HS5.out.1 (fun q hq => ?_) (fun q hq => ?_) (.inl HSUB.out.2.2.1) (fun q hq => ?_), HLP.out.2.2.trans HS5.out.2.1 fun q hq => .inl (by rw [show q = g from hq]; exact HSUB.out.2.2.1)⟩
    · rcases HD5.out q hq with h | h
      · exact .inl (HSUB.out.1 q h)
      exact .inr ⟨by omega, by rw [HS5.out.2.2]; exact h.2⟩
    · rcases hq.1 with h | h
      · exact .inl (HSUB.out.2.1 q h)
      exact .inr ⟨by have := HB.out.1; omega, by rw [HS5.out.2.2]; have := hq.2; omega⟩
    rw [HS5.out.2.2]
    rcases hq with h | h
    · have := HSUB.out.2.2.2 q h; omega
    have := h.2; rw [HS5.out.2.2] at this; exact this
  have hb : (q1 == 0) = false := by simpa using hq1
  have hr3 := HR3.out
  rw [if_neg hq1] at hr3
  have HR4 := hid hr3
  clear hr3 HR3 hq1
  go_wp2
  go_ret
  rw [HR4.out]
  exact HLP.out
end Go.Proofs.YtikjckdoldiddaaGreatDoor
