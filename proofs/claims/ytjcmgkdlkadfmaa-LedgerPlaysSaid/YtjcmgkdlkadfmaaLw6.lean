/- The walks of Add, Cut, Rebase. -/
import Derived.Test.YtjcmgkdlkadfmaaLw5
import Derived.Deep.RegionWith
namespace Go.Proofs.Ytjcmgkdlkadfmaa
open Go.RowKit
set_option linter.unusedVariables false
set_option linter.unusedSimpArgs false
attribute [local go_sem] bmax2 bmin2 bmax_two bmin_two

theorem EsF.of_own {F : Nat → Prop} {w : World} {B : Nat} {ent : TypeId} {v : Value} {n : Nat} {H : List EH} {l : List Ent} (hl : H.length = l.length) (hn : n = l.length) (h40 : l.length * 40 ≤ 140737488351232)
    (hown : w.ownsRow B ent 3 v n (rawH H)) (hH : ∀ k (h1 : k < H.length) (h2 : k < l.length), H[k].i = l[k].i ∧ H[k].t = l[k].t ∧ ByF F w H[k].a H[k].n H[k].c l[k].d)
    (h64 : ∀ k, (h : k < l.length) → In64 l[k].i ∧ In64 l[k].t) : ∃ a c, v = .slice a l.length c ∧ EsF (fun k => F k ∨ B ≤ k) w a l.length c l := by
  subst hn
  rcases hown.2 with ⟨rfl, h0⟩ | ⟨g, cap, cur, rfl, hg, hc, hnc, hm, hs, ht⟩
  · have : l = [] := List.eq_nil_of_length_eq_zero h0
    subst this
    exact ⟨none, 0, rfl, EsF.nil_ _ _⟩
  · refine ⟨_, _, rfl, rfl, hnc, ⟨hm, h40⟩, (fun e => by cases e), fun p hp => ?_⟩
    cases hp
    refine ⟨fun _ => rfl, fun j hj => ⟨.inr hg, ?_⟩⟩
    obtain ⟨hi, ht, hd⟩ := hH j (by omega) hj
    have hcell : ∀ i, i < 3 → w.cell? ⟨g, j * 3 + i, none⟩ = (H[j]'(by omega)).cells[i]? := fun i hi => by
      rw [hown.cellAt (j * 3 + i) (by omega), rawH_get _ _ _ hi, List.getElem?_eq_getElem (by omega)]; rfl
    rw [Nat.zero_add]
    exact ⟨(h64 j hj).1, (h64 j hj).2, (hcell 0 (by omega)).trans (by simp [EH.cells, hi]), (hcell 1 (by omega)).trans (by simp [EH.cells, ht]), _, _, _, (hcell 2 (by omega)).trans rfl, hd.more fun _ h => .inl h⟩
theorem EsF.in64 {F : Nat → Prop} {w : World} {a : Option Addr} {n c : Nat} {l : List Ent} (h : EsF F w a n c l) : ∀ k, (h : k < l.length) → In64 l[k].i ∧ In64 l[k].t := by
  intro k hk
  obtain ⟨b, o, -, -, -, _, he⟩ := h.at_ (k := k) (by have := h.1; omega)
  exact ⟨he.1, he.2.1⟩
theorem rawH_append (H K : List EH) : rawH (H ++ K) = rawH H ++ rawH K := by simp [rawH]

/-- The list behind a ledger's field is another one. -/
theorem LedAt.setList {F G : Nat → Prop} {w w' : World} {b : Nat} {s : LS} (h : LedAt F w b s) (hb : w'.heap[b]? = w.heap[b]?) {l : List Ent} {a : Option Addr} {c : Nat} (hl : EsF G w' a l.length c l) (hg : ¬ G b) :
    LedAt G (w'.setCell ⟨b, 2, none⟩ (.slice a l.length c)) b ⟨s.i, s.t, l⟩ := by
  obtain ⟨a0, c0, h1, -⟩ := h.obj
  refine ⟨⟨a, c, ?_, ?_⟩, hg, h.i64, h.t64⟩
  · exact heap_setCell_same w' b 2 _ _ _ (hb.trans h1)
  · exact hl.keep fun k hk _ => ⟨hk, heap_setCell_other w' _ k _ (by rintro rfl; exact hg hk)⟩

/-- Behind 'append(slices.Clone(list), own(more)...)'. -/
theorem app_done {F : Nat → Prop} {w w1 w2 w3 w4 : World} {ent : TypeId} {H H2 : List EH} {l more : List Ent} {v1 v3 : Value} (hx1 : Ext w w1) (hb2 : Ext w1 w2) (hb3 : Ext w2 w3)
    (hl : ∀ k, (h : k < l.length) → In64 l[k].i ∧ In64 l[k].t) (hm : ∀ k, (h : k < more.length) → In64 more[k].i ∧ In64 more[k].t) (hsz : (l.length + more.length) * 40 ≤ 140737488351232)
    (hH : H.length = l.length) (hH2 : H2.length = more.length)
    (hHl : ∀ k (h1 : k < H.length) (h2 : k < l.length), H[k].i = l[k].i ∧ H[k].t = l[k].t ∧ ByF (fun b => F b ∧ b < w.heap.size) w H[k].a H[k].n H[k].c l[k].d)
    (hH2l : ∀ k (h1 : k < H2.length) (h2 : k < more.length), H2[k].i = more[k].i ∧ H2[k].t = more[k].t ∧ ByF (fun b => w2.heap.size ≤ b) w3 H2[k].a H2[k].n H2[k].c more[k].d)
    (hown1 : w2.ownsRow w1.heap.size ent 3 v1 H.length (rawH H)) (hown3 : w4.ownsRow w1.heap.size ent 3 v3 (H.length + more.length) (rawH H ++ rawH H2)) (hg : w3.grownBy w4 v1.ownBlock) :
    ∃ a c, v3 = .slice a (l ++ more).length c ∧ EsF (fun k => (F k ∧ k < w.heap.size) ∨ w.heap.size ≤ k) w4 a (l ++ more).length c (l ++ more) ∧ Ext w w4 := by
  have hs1 := hx1.size
  have hs2 := hb2.size
  have hs3 := hb3.size
  have hext : Ext w w4 := (Ext.trans' (Ext.trans' hx1 hb2) hb3).grown hg (by omega) (fun k hk => by have := hown1.lt k hk; omega)
  rw [← rawH_append] at hown3
  have hlen : (H ++ H2).length = (l ++ more).length := by simp [hH, hH2]
  obtain ⟨a, c, hv, he⟩ := EsF.of_own (F := fun k => (F k ∧ k < w.heap.size) ∨ w.heap.size ≤ k) hlen (by simp [hH]) (by simpa using hsz) hown3
    (fun k h1 h2 => by
      by_cases hk : k < l.length
      · have hk1 : k < H.length := by omega
        rw [List.getElem_append_left hk1, List.getElem_append_left hk]
        obtain ⟨e1, e2, e3⟩ := hHl k hk1 hk
        exact ⟨e1, e2, e3.keep fun q hq hs => ⟨.inl hq, hext.block q hs⟩⟩
      · have hk1 : ¬ k < H.length := by omega
        rw [List.getElem_append_right (by omega), List.getElem_append_right (by omega)]
        have hkk : k - H.length < more.length := by simp at h2; omega
        have := hH2l (k - H.length) (by omega) hkk
        have hkl : k - l.length = k - H.length := by omega
        simp only [hkl]
        obtain ⟨e1, e2, e3⟩ := this
        exact ⟨e1, e2, e3.keep fun q hq hs => ⟨.inr (by omega), hg.block q hs (fun e => by have := hown1.lt q e.symm; omega)⟩⟩)
    (fun k hk => by
      by_cases hkl : k < l.length
      · rw [List.getElem_append_left hkl]; exact hl k hkl
      · rw [List.getElem_append_right (by omega)]; exact hm _ (by simp at hk; omega))
  exact ⟨a, c, hv, he.more fun q hq => by rcases hq with hq | hq; exact hq; exact .inr (by omega), hext⟩

set_option maxHeartbeats 1000000 in
theorem Add_ok {F G : Nat → Prop} {w : World} {b : Nat} {s : LS} (h : LedAt F w b s) (hF : ∀ k, w.heap.size ≤ k → F k) {a : Option Addr} {n c : Nat} {more : List Ent} (hm : EsF G w a n c more)
    (hr : risesS s.lastI s.lastT more = true) (hok : s.Ok) (hsz : (s.l.length + more.length) * 40 ≤ 140737488351232) :
    Calls Try.prog 33 #[.pointer (some ⟨b, 0, none⟩), .slice a n c] w fun e w' => e = .returned (.int .i64 0) ∧
      LedAt F w' b ⟨s.i, s.t, s.l ++ more⟩ ∧ w.grownBy w' (some b) := by
  obtain ⟨al, cl, h0, h1, h2, h3, hfz, hl, hbl⟩ := h.cells
  have hlast := hok.lastI_eq
  have hle := hok.last_le
  have hB := hok.bounds
  have hrc := rises_any G s.lastI s.lastT a n c more w ⟨by omega, by omega⟩ hm
  rw [hr] at hrc
  have hcall : ∀ W, LedAt F W b s → Calls Try.prog 19 #[.pointer (some ⟨b, 0, none⟩)] W fun e w' => e = .returned (.tuple #[.int .i64 s.lastI, .int .i64 s.lastT]) ∧ ∃ k, w' = W.drewN k := fun W hW => Last_at hW
  have hrc : ∀ W, EsF G W a n c more → Calls Try.prog 45 #[.int .i64 s.lastI, .int .i64 s.lastT, .slice a n c] W fun e w' => e = .returned (.bool true) ∧ Ext W w' := by
    intro W hW
    have := rises_any G s.lastI s.lastT a n c more W ⟨by omega, by omega⟩ hW
    rw [hr] at this
    exact this
  generalize s.lastI = z at *
  generalize s.lastT = y at *
  obtain ⟨H, hH, hrow, hHl⟩ := hl.lt.raw
  have hfz2 := hfz 2
  have HC := hid hcall
  have HR := hid hrc
  have HM := hid hm
  have HL := hid hl
  have HO := hid h
  have hlc := hl.1
  have hl64 := hl.in64
  have hm64 := hm.in64
  have hl40 := hl.2.2.1.2
  have hla := hl.2.2.2.1
  clear hcall hrc hm hr hlast hle hok hl hfz h
  have HH := hid hH
  have HW := hid hrow
  have HHL := hid hHl
  have HLA := hid hla
  have HL64 := hid hl64
  have HM64 := hid hm64
  have HF := hid hF
  clear hrow hHl hH hlc hla hl64 hm64 hF
  go_enter Try.func33, Try.ntmps33
  go_wp2_with (first
    | (go_at_call 42; refine (made_led (F := F) (s := s) (by first | exact HO.out | exact HO.out.drewN _)).mono ?_; rintro e w' ⟨rfl, rfl⟩)
    | (go_at_call 19; refine (HC.out _ (by first | exact HO.out | exact HO.out.drewN _)).mono ?_; rintro e w' ⟨rfl, k, rfl⟩)
    | (go_at_call 45; refine (HR.out _ (by first | exact HM.out | exact HM.out.drewN _)).mono ?_; rintro e w1 ⟨rfl, hb1⟩; have h2' := (hb1.cell (p := ⟨b, 2, none⟩) hbl).trans h2))
  have hx1 : Ext w w1 := ext_of_drewN hb1
  clear hrc hb1
  refine (cloneE_any al s.l.length cl H w1 HH.out.symm hl40 HLA.out (HW.out.ext hx1)).mono ?_
  rintro e w2 ⟨v1, rfl, hown1, hb2⟩
  go_wp2_with fail
  refine (own_any G _ _ _ more _ (by exact HM.out.below (Ext.trans' hx1 hb2))).mono ?_
  rintro e w3 ⟨v2, rfl, hown2, hb3⟩
  obtain ⟨a2, c2, rfl, he2⟩ := hown2.es
  obtain ⟨H2, hH2, hrow2, hHl2⟩ := he2.raw
  have h264 := he2.in64
  have hn2 := he2.2.2.2.1
  clear hown2 he2
  have HH2 := hid hH2
  have HW2 := hid hrow2
  have HHL2 := hid hHl2
  have H264 := hid h264
  have HN2 := hid hn2
  have HO1 := hid hown1
  clear hH2 hrow2 hHl2 h264 hown1 hn2
  have hsz' : (H.length + more.length) * 40 ≤ 140737488351232 := by rw [HH.out]; exact hsz
  go_wp2_with (at_builtin; refine wpList_append_row rfl (.tmp 25) (.tmp 27) _ rfl w1.heap.size 54 (.agg #[.int .i64 0, .int .i64 0, .slice none 0 0]) 3 40 Try.underlying22 info_ent rfl (by decide) v1 H.length (rawH H) rfl (HO1.out.kept (grown_below hb3 none) (by cases v1.ownBlock <;> simp)) a2 more.length c2 (rawH H2) rfl HN2.out HW2.out (rawH_mem H2) (by unfold maxLen; omega) (by omega) (by have := hb2.size; have := hb3.size; omega) ?_; intro v3 w4 hown3 hg; obtain ⟨a3, c3, rfl, he3, hx4⟩ := app_done hx1 hb2 hb3 HL64.out HM64.out hsz HH.out HH2.out HHL.out HHL2.out HO1.out hown3 hg; clear hown3 hg; have HE3 := hid he3; clear he3; have h2w := (hx4.cell (p := ⟨b, 2, none⟩) hbl).trans h2; have hfw := (hx4.frozen (p := ⟨b, 2, none⟩) hbl).trans hfz2)
  go_ret
  have hF' : ∀ k, (F k ∧ k < w.heap.size) ∨ w.heap.size ≤ k → F k := fun k hk => by
    rcases hk with hk | hk
    · exact hk.1
    · exact HF.out k hk
  refine ⟨rfl, by rw [← List.length_append]; exact LedAt.setList HO.out (hx4.block b hbl) (HE3.out.more hF') HO.out.far, (grown_below hx4 (some b)).os, (grown_below hx4 (some b)).tape, (grown_below hx4 (some b)).output, by simpa [World.setCell] using hx4.size, fun k hk hne => ?_⟩
  rw [heap_setCell_other w4 _ k _ (fun e => hne (by rw [e]))]
  exact hx4.block k hk

set_option maxHeartbeats 1000000 in
theorem Add_bad {F G : Nat → Prop} {w : World} {b : Nat} {s : LS} (h : LedAt F w b s) {a : Option Addr} {n c : Nat} {more : List Ent} (hm : EsF G w a n c more)
    (hr : risesS s.lastI s.lastT more = false) (hok : s.Ok) :
    Calls Try.prog 33 #[.pointer (some ⟨b, 0, none⟩), .slice a n c] w fun e w' => e = .returned (.int .i64 110) ∧ Ext w w' := by
  have hlast := hok.lastI_eq
  have hle := hok.last_le
  have hB := hok.bounds
  have hcall : ∀ W, LedAt F W b s → Calls Try.prog 19 #[.pointer (some ⟨b, 0, none⟩)] W fun e w' => e = .returned (.tuple #[.int .i64 s.lastI, .int .i64 s.lastT]) ∧ ∃ k, w' = W.drewN k := fun W hW => Last_at hW
  have hrc : ∀ W, EsF G W a n c more → Calls Try.prog 45 #[.int .i64 s.lastI, .int .i64 s.lastT, .slice a n c] W fun e w' => e = .returned (.bool false) ∧ Ext W w' := by
    intro W hW
    have := rises_any G s.lastI s.lastT a n c more W ⟨by omega, by omega⟩ hW
    rw [hr] at this
    exact this
  generalize s.lastI = z at *
  generalize s.lastT = y at *
  have HC := hid hcall
  have HR := hid hrc
  have HM := hid hm
  have HO := hid h
  clear hcall hrc hm hr hlast hle hok h
  go_enter Try.func33, Try.ntmps33
  go_wp2_with (first
    | (go_at_call 42; refine (made_led (F := F) (s := s) (by first | exact HO.out | exact HO.out.drewN _)).mono ?_; rintro e w' ⟨rfl, rfl⟩)
    | (go_at_call 19; refine (HC.out _ (by first | exact HO.out | exact HO.out.drewN _)).mono ?_; rintro e w' ⟨rfl, k, rfl⟩)
    | (go_at_call 45; refine (HR.out _ (by first | exact HM.out | exact HM.out.drewN _)).mono ?_; rintro e w1 ⟨rfl, hb1⟩))
  go_ret
  exact ⟨rfl, ext_of_drewN hb1⟩

set_option maxHeartbeats 1000000 in
theorem Cut_bad {F : Nat → Prop} {w : World} {b : Nat} {s : LS} (h : LedAt F w b s) (x : Int) (hx : x ≤ s.i ∨ s.lastI < x) :
    Calls Try.prog 32 #[.pointer (some ⟨b, 0, none⟩), .int .i64 x] w fun e w' => e = .returned (.int .i64 51) ∧ Ext w w' := by
  obtain ⟨a, c, h0, h1, h2, h3, -, -, hbl⟩ := h.cells
  have hcall : ∀ W, LedAt F W b s → Calls Try.prog 19 #[.pointer (some ⟨b, 0, none⟩)] W fun e w' => e = .returned (.tuple #[.int .i64 s.lastI, .int .i64 s.lastT]) ∧ ∃ k, w' = W.drewN k := fun W hW => Last_at hW
  generalize s.lastI = z at *
  generalize s.lastT = y at *
  have HC := hid hcall
  have HO := hid h
  clear hcall h
  go_enter Try.func32, Try.ntmps32
  go_wp2_with (first
    | (go_at_call 42; refine (made_led (F := F) (s := s) (by first | exact HO.out | exact HO.out.drewN _)).mono ?_; rintro e w' ⟨rfl, rfl⟩)
    | (go_at_call 19; refine (HC.out _ (by first | exact HO.out | exact HO.out.drewN _)).mono ?_; rintro e w' ⟨rfl, k, rfl⟩))
  all_goals first
    | (go_ret; exact ⟨rfl, below_drewN (Below.refl _ _) _⟩)
    | (exfalso; omega)

/-- Behind a store of another list. -/
theorem grown_set {w w4 : World} {b : Nat} (hx : Ext w w4) (u : Value) : w.grownBy (w4.setCell ⟨b, 2, none⟩ u) (some b) :=
  ⟨hx.os, hx.tape, hx.output, by simpa [World.setCell] using hx.size, fun k hk hne => by
    rw [heap_setCell_other w4 _ k _ (fun e => hne (by rw [e]))]
    exact hx.block k hk⟩
theorem ext_drew (w : World) : Ext w w.drew := ⟨rfl, rfl, rfl, Nat.le_refl _, fun _ _ => rfl⟩

set_option maxHeartbeats 1000000 in
theorem Cut_ok {F : Nat → Prop} {w : World} {b : Nat} {s : LS} (h : LedAt F w b s) (hF : ∀ k, w.heap.size ≤ k → F k) (hok : s.Ok) (x : Int) (hx : s.i < x ∧ x ≤ s.lastI) :
    Calls Try.prog 32 #[.pointer (some ⟨b, 0, none⟩), .int .i64 x] w fun e w' => e = .returned (.int .i64 0) ∧
      LedAt F w' b ⟨s.i, s.t, s.l.take (x - s.i - 1).toNat⟩ ∧ w.grownBy w' (some b) := by
  obtain ⟨hx1, hx2⟩ := hx
  obtain ⟨a, c, h0, h1, h2, h3, hfz, hl, hbl⟩ := h.cells
  have hlast := hok.lastI_eq
  have hle := hok.last_le
  have hB := hok.bounds
  have hcall : ∀ W, LedAt F W b s → Calls Try.prog 19 #[.pointer (some ⟨b, 0, none⟩)] W fun e w' => e = .returned (.tuple #[.int .i64 s.lastI, .int .i64 s.lastT]) ∧ ∃ k, w' = W.drewN k := fun W hW => Last_at hW
  generalize s.lastI = z at *
  generalize s.lastT = y at *
  obtain ⟨j, hj⟩ : ∃ j : Nat, x - s.i - 1 = j := ⟨(x - s.i - 1).toNat, by omega⟩
  have hjn : (x - s.i - 1).toNat = j := by omega
  rw [hjn]
  have hjl : j < s.l.length := by omega
  have hcut := hl.lt.front (q := j) (by omega)
  obtain ⟨H, hH, hrow, hHl⟩ := hcut.raw
  have hc64 := hcut.in64
  have h40 := hcut.2.2.1.2
  have hlen : (s.l.take j).length = j := by simp; omega
  have hla := hl.2.2.2.1
  have hcc : s.l.length ≤ c := hl.2.1
  have hl40 := hl.2.2.1.2
  have w1 : IntKind.i64.wrap (x - s.i) = x - s.i := wrapi (by omega)
  have w2 : IntKind.i64.wrap (x - s.i - 1) = (j : Int) := by rw [← hj]; exact wrapi (by omega)
  have hc1 : decide (x ≤ s.i) = false := by simp; omega
  have hc2 : decide (z < x) = false := by simp; omega
  have hfz2 := hfz 2
  have hj0 : (0 : Int) ≤ (j : Int) := by omega
  have hjc : (j : Int) ≤ (c : Int) := by omega
  have HC := hid hcall
  have HO := hid h
  have HH := hid hH
  have HW := hid hrow
  have HHL := hid hHl
  have H64 := hid hc64
  have HL := hid hlen
  have HA := hid hla
  have HF := hid hF
  clear hcall h hH hrow hHl hc64 hlen hla hF hcut hl hlast hle hj hjn hok hfz hx1 hx2
  go_enter Try.func32, Try.ntmps32
  go_wp2_with (first
    | (go_at_call 42; refine (made_led (F := F) (s := s) (by first | exact HO.out | exact HO.out.drewN _)).mono ?_; rintro e w' ⟨rfl, rfl⟩)
    | (go_at_call 19; refine (HC.out _ (by first | exact HO.out | exact HO.out.drewN _)).mono ?_; rintro e w' ⟨rfl, k, rfl⟩))
  go_region_with (go_at_call 49; refine (cloneE_any a j c H _ (by rw [HH.out, HL.out]) (by omega) HA.out (by exact HW.out)).mono ?_; rintro e w2 ⟨v, rfl, hown, hb⟩; obtain ⟨a3, c3, rfl, he3⟩ := EsF.of_own (F := fun q => F q ∧ q < w.heap.size) HH.out (by rw [HH.out]) (by rw [HL.out]; exact h40) hown (fun k h1 h2 => by obtain ⟨e1, e2, e3⟩ := HHL.out k h1 h2; exact ⟨e1, e2, e3.keep fun q hq hs => ⟨hq, hb.block q hs⟩⟩) H64.out; clear hown; have h2w := (hb.cell (p := ⟨b, 2, none⟩) hbl).trans h2; have hfw := (hb.frozen (p := ⟨b, 2, none⟩) hbl).trans hfz2; have HE3 := hid he3; clear he3)
  all_goals
    go_wp2
    go_ret
    have hF' : ∀ q, (F q ∧ q < w.heap.size) ∨ w.heap.size ≤ q → F q := fun q hq => by
      rcases hq with hq | hq
      · exact hq.1
      · exact HF.out q hq
    refine ⟨rfl, ?_, grown_set (ext_of_drewN hb) _⟩
    have hs := LedAt.setList HO.out (hb.block b hbl) (HE3.out.more hF') HO.out.far
    first | exact hs | (rw [HL.out] at hs; exact hs) | (simpa using hs)
end Go.Proofs.Ytjcmgkdlkadfmaa
