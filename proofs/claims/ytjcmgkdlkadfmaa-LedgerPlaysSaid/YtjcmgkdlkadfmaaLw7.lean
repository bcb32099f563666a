/- The walks of Rebase. -/
import Derived.Test.YtjcmgkdlkadfmaaLw6
namespace Go.Proofs.Ytjcmgkdlkadfmaa
open Go.RowKit
set_option linter.unusedVariables false
set_option linter.unusedSimpArgs false
attribute [local go_sem] bmax2 bmin2 bmax_two bmin_two

/-- Base and list are others. -/
theorem LedAt.setAll {F G : Nat → Prop} {w w' : World} {b : Nat} {s : LS} (h : LedAt F w b s) (hb : w'.heap[b]? = w.heap[b]?) {x t : Int} (hx : In64 x) (ht : In64 t) {l : List Ent} {a : Option Addr} {c : Nat} (hl : EsF G w' a l.length c l) (hg : ¬ G b) :
    LedAt G (((w'.setCell ⟨b, 0, none⟩ (.int .i64 x)).setCell ⟨b, 1, none⟩ (.int .i64 t)).setCell ⟨b, 2, none⟩ (.slice a l.length c)) b ⟨x, t, l⟩ := by
  obtain ⟨a0, c0, h1, -⟩ := h.obj
  refine ⟨⟨a, c, ?_, ?_⟩, hg, hx, ht⟩
  · have e0 := heap_setCell_same w' b 0 _ _ (.int .i64 x) (hb.trans h1)
    have e1 := heap_setCell_same _ b 1 _ _ (.int .i64 t) e0
    exact heap_setCell_same _ b 2 _ _ _ e1
  · refine hl.keep fun k hk _ => ⟨hk, ?_⟩
    have hne : k ≠ b := by rintro rfl; exact hg hk
    rw [heap_setCell_other _ _ k _ hne, heap_setCell_other _ _ k _ hne, heap_setCell_other _ _ k _ hne]
theorem grown_setAll {w w4 : World} {b : Nat} (hx : Ext w w4) (u v x : Value) : w.grownBy (((w4.setCell ⟨b, 0, none⟩ u).setCell ⟨b, 1, none⟩ v).setCell ⟨b, 2, none⟩ x) (some b) :=
  ⟨hx.os, hx.tape, hx.output, by simpa [World.setCell] using hx.size, fun k hk hne => by
    have hne : k ≠ b := by rintro rfl; exact hne rfl
    rw [heap_setCell_other _ _ k _ hne, heap_setCell_other _ _ k _ hne, heap_setCell_other _ _ k _ hne]
    exact hx.block k hk⟩
theorem ext_drewN (w : World) (k : Nat) : Ext w (w.drewN k) := ⟨rfl, rfl, rfl, Nat.le_refl _, fun _ _ => rfl⟩

theorem cloneE_empty (a : Option Addr) (c : Nat) (w : World) (hc : a = none → c = 0) :
    Calls Try.prog 49 #[.slice a 0 c] w fun e w' => ∃ a' c', e = .returned (.slice a' 0 c') ∧ EsF (fun _ => False) w' a' 0 c' [] ∧ Ext w w' := by
  refine (cloneE_any a 0 c [] w rfl (by decide) hc ⟨rfl, fun _ => rfl, fun _ _ j u hu => by cases hu⟩).mono ?_
  rintro e w' ⟨v, rfl, hown, hb⟩
  rcases hown.2 with ⟨rfl, h0⟩ | ⟨g, cap, cur, rfl, hg, hc, hnc, hm, hs, ht⟩
  · exact ⟨none, 0, rfl, EsF.nil_ _ _, hb⟩
  · refine ⟨_, cap, rfl, ⟨rfl, Nat.zero_le _, ⟨hm, by decide⟩, (fun e => by cases e), fun p hp => ?_⟩, hb⟩
    cases hp
    exact ⟨fun _ => rfl, fun k hk => by cases hk⟩

def LS.rebase (s : LS) (x t : Int) : LS := ⟨x, t, if s.term x = some t then s.l.drop (x - s.i).toNat else []⟩

set_option maxHeartbeats 1000000 in
theorem Rebase_bad {F : Nat → Prop} {w : World} {b : Nat} {s : LS} (h : LedAt F w b s) (x t : Int) (hx : goodS x t = false ∨ x < s.i) :
    Calls Try.prog 34 #[.pointer (some ⟨b, 0, none⟩), .int .i64 x, .int .i64 t] w fun e w' => e = .returned (.int .i64 110) ∧ Ext w w' := by
  obtain ⟨a, c, h0, h1, h2, h3, -, -, hbl⟩ := h.cells
  have hg := good_any x t w
  have HG := hid hg
  have HO := hid h
  clear hg h
  by_cases hgs : goodS x t = true
  · have hlt : x < s.i := by
      rcases hx with hx | hx
      · rw [hgs] at hx; cases hx
      · exact hx
    rw [hgs] at HG
    clear hgs hx
    go_enter Try.func34, Try.ntmps34
    go_wp2_with (first
      | (go_at_call 42; refine (made_led (F := F) (s := s) (by first | exact HO.out | exact HO.out.drewN _)).mono ?_; rintro e w' ⟨rfl, rfl⟩)
      | (go_at_call 44; refine Calls.mono HG.out ?_; rintro e w' ⟨rfl, rfl⟩))
    go_ret
    exact ⟨rfl, Below.refl _ _⟩
  · have hgf : goodS x t = false := by rw [← Bool.not_eq_true]; exact hgs
    rw [hgf] at HG
    clear hgs hx hgf
    go_enter Try.func34, Try.ntmps34
    go_wp2_with (first
      | (go_at_call 42; refine (made_led (F := F) (s := s) (by first | exact HO.out | exact HO.out.drewN _)).mono ?_; rintro e w' ⟨rfl, rfl⟩)
      | (go_at_call 44; refine Calls.mono HG.out ?_; rintro e w' ⟨rfl, rfl⟩))
    go_ret
    exact ⟨rfl, Below.refl _ _⟩

set_option maxHeartbeats 1000000 in
theorem Rebase_none {F : Nat → Prop} {w : World} {b : Nat} {s : LS} (h : LedAt F w b s) (hok : s.Ok) (x t : Int) (h64 : In64 x) (hg : goodS x t = true) (hx : s.i ≤ x) (ht : s.term x ≠ some t) :
    Calls Try.prog 34 #[.pointer (some ⟨b, 0, none⟩), .int .i64 x, .int .i64 t] w fun e w' => e = .returned (.int .i64 0) ∧ LedAt F w' b (s.rebase x t) ∧ w.grownBy w' (some b) := by
  obtain ⟨a, c, h0, h1, h2, h3, hfz, -, hbl⟩ := h.cells
  have hgc := good_any x t w
  rw [hg] at hgc
  have hT := fun W (hW : LedAt F W b s) => Term_at hW hok x h64
  have hR : s.rebase x t = ⟨x, t, []⟩ := by unfold LS.rebase; rw [if_neg ht]
  rw [hR]
  have hgi := (goodS_iff x t).1 hg
  have f0 := hfz 0
  have f1 := hfz 1
  have f2 := hfz 2
  have HR := hid hgi
  cases ho : s.term x with
  | none =>
    rw [ho] at hT
    have HT := hid hT
    have HG := hid hgc
    have HO := hid h
    clear hT hgc h hg hok ho ht hR hgi hfz
    go_enter Try.func34, Try.ntmps34
    go_wp2_with (first
      | (go_at_call 42; refine (made_led (F := F) (s := s) (by first | exact HO.out | exact HO.out.drewN _)).mono ?_; rintro e w' ⟨rfl, rfl⟩)
      | (go_at_call 44; refine Calls.mono HG.out ?_; rintro e w' ⟨rfl, rfl⟩)
      | (go_at_call 24; refine Calls.mono (HT.out _ HO.out) ?_; rintro e w' ⟨rfl, k, rfl⟩))
    go_ret
    have hr := HR.out
    exact ⟨rfl, LedAt.setAll (w' := w.drewN k) (x := x) (t := t) (l := []) (a := none) (c := 0) HO.out rfl ⟨by omega, by omega⟩ ⟨by omega, by omega⟩ (EsF.nil_ F _) HO.out.far, grown_setAll (ext_drewN w k) _ _ _⟩
  | some t' =>
    rw [ho] at hT
    have htt : (t' == t) = false := by
      rw [ho] at ht
      simpa using ht
    have HT := hid hT
    have HG := hid hgc
    have HO := hid h
    clear hT hgc h hg hok ho ht hR hgi hfz
    go_enter Try.func34, Try.ntmps34
    go_wp2_with (first
      | (go_at_call 42; refine (made_led (F := F) (s := s) (by first | exact HO.out | exact HO.out.drewN _)).mono ?_; rintro e w' ⟨rfl, rfl⟩)
      | (go_at_call 44; refine Calls.mono HG.out ?_; rintro e w' ⟨rfl, rfl⟩)
      | (go_at_call 24; refine Calls.mono (HT.out _ HO.out) ?_; rintro e w' ⟨rfl, k, rfl⟩))
    go_ret
    have hr := HR.out
    exact ⟨rfl, LedAt.setAll (w' := w.drewN k) (x := x) (t := t) (l := []) (a := none) (c := 0) HO.out rfl ⟨by omega, by omega⟩ ⟨by omega, by omega⟩ (EsF.nil_ F _) HO.out.far, grown_setAll (ext_drewN w k) _ _ _⟩

set_option maxHeartbeats 1000000 in
theorem Rebase_some {F : Nat → Prop} {w : World} {b : Nat} {s : LS} (h : LedAt F w b s) (hF : ∀ k, w.heap.size ≤ k → F k) (hok : s.Ok) (x t : Int) (h64 : In64 x) (hg : goodS x t = true) (hx : s.i ≤ x) (ht : s.term x = some t) :
    Calls Try.prog 34 #[.pointer (some ⟨b, 0, none⟩), .int .i64 x, .int .i64 t] w fun e w' => e = .returned (.int .i64 0) ∧ LedAt F w' b (s.rebase x t) ∧ w.grownBy w' (some b) := by
  obtain ⟨a, c, h0, h1, h2, h3, hfz, hl, hbl⟩ := h.cells
  have hgc := good_any x t w
  rw [hg] at hgc
  have hT := fun W (hW : LedAt F W b s) => Term_at hW hok x h64
  have hR : s.rebase x t = ⟨x, t, s.l.drop (x - s.i).toNat⟩ := by unfold LS.rebase; rw [if_pos ht]
  rw [hR]
  have hgi := (goodS_iff x t).1 hg
  have hB := hok.bounds
  have f0 := hfz 0
  have f1 := hfz 1
  have f2 := hfz 2
  rw [ht] at hT
  obtain ⟨j, hj⟩ : ∃ j : Nat, x - s.i = j := ⟨(x - s.i).toNat, by omega⟩
  have hjn : (x - s.i).toNat = j := by omega
  have hjl : j ≤ s.l.length := by
    unfold LS.term at ht
    rw [if_neg (by omega)] at ht
    by_cases he : x = s.i
    · omega
    · rw [if_neg he] at ht
      by_cases hk : (x - s.i - 1).toNat < s.l.length
      · omega
      · rw [List.getElem?_eq_none (by omega)] at ht; cases ht
  rw [hjn]
  have hbase : IntKind.i64.wrap (x - s.i) = (j : Int) := by rw [← hj]; exact wrapi (by omega)
  have hcc : s.l.length ≤ c := hl.2.1
  have hl40 := hl.2.2.1.2
  have hj0 : (0 : Int) ≤ (j : Int) := by omega
  have hj1 : (j : Int) ≤ (s.l.length : Int) := by omega
  have HT := hid hT
  have HG := hid hgc
  have HO := hid h
  have HL := hid hl
  have HR := hid hgi
  have HF := hid hF
  have hx' : decide (x < s.i) = false := by simp; omega
  clear hT hgc h hg hok ht hR hgi hfz hj hjn hl hx hF
  by_cases hlt : j < s.l.length
  · have hes : ∃ p o, a = some ⟨p, o, none⟩ := by
      obtain ⟨p, o, e, -⟩ := HL.out.at_ hlt
      exact ⟨p, o, e⟩
    obtain ⟨p, o, rfl⟩ := hes
    have hcut := HL.out.lt.cut (j := j) hjl
    obtain ⟨H, hH, hrow, hHl⟩ := hcut.raw
    have hc64 := hcut.in64
    have hnl := hcut.1
    have HH := hid hH
    have HW := hid hrow
    have HHL := hid hHl
    have H64 := hid hc64
    have HN := hid hnl
    clear hH hrow hHl hc64 hcut hnl
    go_enter Try.func34, Try.ntmps34
    go_wp2_with (first
      | (go_at_call 42; refine (made_led (F := F) (s := s) (by first | exact HO.out | exact HO.out.drewN _)).mono ?_; rintro e w' ⟨rfl, rfl⟩)
      | (go_at_call 44; refine Calls.mono HG.out ?_; rintro e w' ⟨rfl, rfl⟩)
      | (go_at_call 24; refine Calls.mono (HT.out _ HO.out) ?_; rintro e w' ⟨rfl, k, rfl⟩))
    go_region_with (go_at_call 49; refine (cloneE_any _ _ _ H _ (by rw [HH.out, HN.out]) (by omega) (fun e => by cases e) (by exact HW.out)).mono ?_; rintro e w2 ⟨v, rfl, hown, hb⟩; obtain ⟨a3, c3, rfl, he3⟩ := EsF.of_own (F := fun q => F q ∧ q < w.heap.size) HH.out HH.out (by rw [← HN.out]; omega) hown (fun k h1 h2 => by obtain ⟨e1, e2, e3⟩ := HHL.out k h1 h2; exact ⟨e1, e2, e3.keep fun q hq hs => ⟨hq, hb.block q hs⟩⟩) H64.out; clear hown; have HE3 := hid he3; clear he3)
    all_goals
      have g0 := (hb.cell (p := ⟨b, 0, none⟩) hbl).trans h0
      have g1 := (hb.cell (p := ⟨b, 1, none⟩) hbl).trans h1
      have g2 := (hb.cell (p := ⟨b, 2, none⟩) hbl).trans h2
      have k0 := (hb.frozen (p := ⟨b, 0, none⟩) hbl).trans f0
      have k1 := (hb.frozen (p := ⟨b, 1, none⟩) hbl).trans f1
      have k2 := (hb.frozen (p := ⟨b, 2, none⟩) hbl).trans f2
      go_wp2
      go_ret
      have hF' : ∀ q, (F q ∧ q < w.heap.size) ∨ w.heap.size ≤ q → F q := fun q hq => by
        rcases hq with hq | hq
        · exact hq.1
        · exact HF.out q hq
      have hr := HR.out
      refine ⟨rfl, ?_, grown_setAll (ext_of_drewN hb) _ _ _⟩
      have hs := LedAt.setAll (w' := w2) (x := x) (t := t) HO.out (hb.block b hbl) ⟨by omega, by omega⟩ ⟨by omega, by omega⟩ (HE3.out.more hF') HO.out.far
      first | exact hs | (rw [← HN.out] at hs; exact hs) | (simpa using hs)
  · have hje : j = s.l.length := by omega
    have hd : s.l.drop j = [] := List.drop_eq_nil_of_le (by omega)
    rw [hd]
    clear hd
    have HJ := hid hje
    clear hje
    cases a with
    | none =>
      have hc0 : c = 0 := HL.out.2.2.2.1 rfl
      have hl0 : s.l.length = 0 := by omega
      have hjz : j = 0 := by omega
      subst hc0; subst hjz
      rw [hl0] at h2
      clear HL HJ hcc hl40 hj1 hlt hl0 hjl
      go_enter Try.func34, Try.ntmps34
      go_wp2_with (first
        | (go_at_call 42; refine (made_led (F := F) (s := s) (by first | exact HO.out | exact HO.out.drewN _)).mono ?_; rintro e w' ⟨rfl, rfl⟩)
        | (go_at_call 44; refine Calls.mono HG.out ?_; rintro e w' ⟨rfl, rfl⟩)
        | (go_at_call 24; refine Calls.mono (HT.out _ HO.out) ?_; rintro e w' ⟨rfl, k, rfl⟩))
      go_region_with (go_at_call 49; refine (cloneE_empty _ _ _ (fun _ => rfl)).mono ?_; rintro e w2 ⟨a3, c3, rfl, he3, hb⟩; have HE3 := hid he3; clear he3)
      all_goals
        have g0 := (hb.cell (p := ⟨b, 0, none⟩) hbl).trans h0
        have g1 := (hb.cell (p := ⟨b, 1, none⟩) hbl).trans h1
        have g2 := (hb.cell (p := ⟨b, 2, none⟩) hbl).trans h2
        have k0 := (hb.frozen (p := ⟨b, 0, none⟩) hbl).trans f0
        have k1 := (hb.frozen (p := ⟨b, 1, none⟩) hbl).trans f1
        have k2 := (hb.frozen (p := ⟨b, 2, none⟩) hbl).trans f2
        go_wp2
        go_ret
        have hr := HR.out
        refine ⟨rfl, ?_, grown_setAll (ext_of_drewN hb) _ _ _⟩
        exact LedAt.setAll (w' := w2) (x := x) (t := t) (l := []) (G := F) HO.out (hb.block b hbl) ⟨by omega, by omega⟩ ⟨by omega, by omega⟩ (HE3.out.more fun _ h => h.elim) HO.out.far
    | some p =>
      obtain ⟨pb, po, ps⟩ := p
      have hps : 0 < c → ps = none := (HL.out.2.2.2.2 _ rfl).1
      rw [← HJ.out] at h2
      by_cases hcj : c = j
      · subst hcj
        clear hcc hjl hlt hl40 hj1
        go_enter Try.func34, Try.ntmps34
        go_wp2_with (first
          | (go_at_call 42; refine (made_led (F := F) (s := s) (by first | exact HO.out | exact HO.out.drewN _)).mono ?_; rintro e w' ⟨rfl, rfl⟩)
          | (go_at_call 44; refine Calls.mono HG.out ?_; rintro e w' ⟨rfl, rfl⟩)
          | (go_at_call 24; refine Calls.mono (HT.out _ HO.out) ?_; rintro e w' ⟨rfl, k, rfl⟩))
        go_region_with (go_at_call 49; refine (cloneE_empty _ _ _ (fun e => by cases e)).mono ?_; rintro e w2 ⟨a3, c3, rfl, he3, hb⟩; have HE3 := hid he3; clear he3)
        all_goals
          have g0 := (hb.cell (p := ⟨b, 0, none⟩) hbl).trans h0
          have g1 := (hb.cell (p := ⟨b, 1, none⟩) hbl).trans h1
          have g2 := (hb.cell (p := ⟨b, 2, none⟩) hbl).trans h2
          have k0 := (hb.frozen (p := ⟨b, 0, none⟩) hbl).trans f0
          have k1 := (hb.frozen (p := ⟨b, 1, none⟩) hbl).trans f1
          have k2 := (hb.frozen (p := ⟨b, 2, none⟩) hbl).trans f2
          go_wp2
          go_ret
          have hr := HR.out
          refine ⟨rfl, ?_, grown_setAll (ext_of_drewN hb) _ _ _⟩
          exact LedAt.setAll (w' := w2) (x := x) (t := t) (l := []) (G := F) HO.out (hb.block b hbl) ⟨by omega, by omega⟩ ⟨by omega, by omega⟩ (HE3.out.more fun _ h => h.elim) HO.out.far
      · have hcj' : j < c := by omega
        have hps : ps = none := hps (by omega)
        subst hps
        clear hcc hjl hlt hl40 hj1
        go_enter Try.func34, Try.ntmps34
        go_wp2_with (first
          | (go_at_call 42; refine (made_led (F := F) (s := s) (by first | exact HO.out | exact HO.out.drewN _)).mono ?_; rintro e w' ⟨rfl, rfl⟩)
          | (go_at_call 44; refine Calls.mono HG.out ?_; rintro e w' ⟨rfl, rfl⟩)
          | (go_at_call 24; refine Calls.mono (HT.out _ HO.out) ?_; rintro e w' ⟨rfl, k, rfl⟩))
        go_region_with (go_at_call 49; refine (cloneE_empty _ _ _ (fun e => by cases e)).mono ?_; rintro e w2 ⟨a3, c3, rfl, he3, hb⟩; have HE3 := hid he3; clear he3)
        all_goals
          have g0 := (hb.cell (p := ⟨b, 0, none⟩) hbl).trans h0
          have g1 := (hb.cell (p := ⟨b, 1, none⟩) hbl).trans h1
          have g2 := (hb.cell (p := ⟨b, 2, none⟩) hbl).trans h2
          have k0 := (hb.frozen (p := ⟨b, 0, none⟩) hbl).trans f0
          have k1 := (hb.frozen (p := ⟨b, 1, none⟩) hbl).trans f1
          have k2 := (hb.frozen (p := ⟨b, 2, none⟩) hbl).trans f2
          go_wp2
          go_ret
          have hr := HR.out
          refine ⟨rfl, ?_, grown_setAll (ext_of_drewN hb) _ _ _⟩
          exact LedAt.setAll (w' := w2) (x := x) (t := t) (l := []) (G := F) HO.out (hb.block b hbl) ⟨by omega, by omega⟩ ⟨by omega, by omega⟩ (HE3.out.more fun _ h => h.elim) HO.out.far
end Go.Proofs.Ytjcmgkdlkadfmaa
