/- The walks of the reference's Rebase. -/
import Derived.Test.YtjcmgkdlkadfmaaLr5
namespace Go.Proofs.Ytjcmgkdlkadfmaa
open Go.RowKit
set_option linter.unusedVariables false
set_option linter.unusedSimpArgs false
attribute [local go_sem] bmax2 bmin2 bmax_two bmin_two

theorem RefAt.setAll {F G : Nat → Prop} {w w' : World} {b : Nat} {s : LS} (h : RefAt F w b s) (hb : w'.heap[b]? = w.heap[b]?) {x t : Int} (hx : In64 x) (ht : In64 t) {l : List Ent} {a : Option Addr} {c : Nat} (hl : EsF G w' a l.length c l) (hg : ¬ G b) :
    RefAt G (((w'.setCell ⟨b, 0, none⟩ (.int .i64 x)).setCell ⟨b, 1, none⟩ (.int .i64 t)).setCell ⟨b, 2, none⟩ (.slice a l.length c)) b ⟨x, t, l⟩ := by
  obtain ⟨a0, c0, h1, -⟩ := h.obj
  refine ⟨⟨a, c, ?_, ?_⟩, hg, hx, ht⟩
  · have e0 := heap_setCell_same w' b 0 _ _ (.int .i64 x) (hb.trans h1)
    have e1 := heap_setCell_same _ b 1 _ _ (.int .i64 t) e0
    exact heap_setCell_same _ b 2 _ _ _ e1
  · refine hl.keep fun k hk _ => ⟨hk, ?_⟩
    have hne : k ≠ b := by rintro rfl; exact hg hk
    rw [heap_setCell_other _ _ k _ hne, heap_setCell_other _ _ k _ hne, heap_setCell_other _ _ k _ hne]

set_option maxHeartbeats 1000000 in
theorem RRebase_bad {F : Nat → Prop} {w : World} {b : Nat} {s : LS} (h : RefAt F w b s) (x t : Int) (hx : goodS x t = false ∨ x < s.i) :
    Calls Try.prog 37 #[.pointer (some ⟨b, 0, none⟩), .int .i64 x, .int .i64 t] w fun e w' => e = .returned (.int .i64 110) ∧ Ext w w' := by
  obtain ⟨a, c, h0, h1, h2, -, -, hbl⟩ := h.cells
  have hg := RGood_any x t w
  have HG := hid hg
  clear hg h h1 h2
  by_cases hgs : goodS x t = true
  · have hlt : x < s.i := by
      rcases hx with hx | hx
      · rw [hgs] at hx; cases hx
      · exact hx
    have hltb : decide (x < s.i) = true := by simpa using hlt
    rw [hgs] at HG
    clear hgs hx
    go_enter Try.func37, Try.ntmps37
    go_wp2_with fail
    refine Calls.mono HG.out ?_
    rintro e w' ⟨rfl, rfl⟩
    go_wp2
    go_ret
    exact ⟨rfl, Below.refl _ _⟩
  · have hgf : goodS x t = false := by rw [← Bool.not_eq_true]; exact hgs
    rw [hgf] at HG
    clear hgs hx hgf
    go_enter Try.func37, Try.ntmps37
    go_wp2_with fail
    refine Calls.mono HG.out ?_
    rintro e w' ⟨rfl, rfl⟩
    go_wp2
    go_ret
    exact ⟨rfl, Below.refl _ _⟩

set_option maxRecDepth 100000 in
set_option maxHeartbeats 4000000 in
theorem RRebase_none {F : Nat → Prop} {w : World} {b : Nat} {s : LS} (h : RefAt F w b s) (hok : s.Ok) (x t : Int) (h64 : In64 x) (hg : goodS x t = true) (hx : s.i ≤ x) (ht : s.term x ≠ some t) :
    Calls Try.prog 37 #[.pointer (some ⟨b, 0, none⟩), .int .i64 x, .int .i64 t] w fun e w' => e = .returned (.int .i64 0) ∧ RefAt F w' b (s.rebase x t) ∧ w.grownBy w' (some b) := by
  obtain ⟨a, c, h0, h1, h2, hfz, hl, hbl⟩ := h.cells
  have hG := RGood_any x t w
  rw [hg] at hG
  have hA := RAt_at h hok x
  have hxb : decide (x < s.i) = false := by simp; omega
  have hrb : s.rebase x t = ⟨x, t, []⟩ := by unfold LS.rebase; rw [if_neg ht]
  rw [hrb]
  have hT : (s.term x).isSome = false ∨ (s.term x).isSome = true ∧ ((s.term x).getD 0 == t) = false := by
    cases hc : s.term x with
    | none => exact .inl rfl
    | some u => exact .inr ⟨rfl, by rw [hc] at ht; simpa using ht⟩
  have h64t : In64 t := by have := (goodS_iff _ _).1 hg; simp [In64]; omega
  generalize (s.term x).isSome = o at *
  generalize (s.term x).getD 0 = u at *
  have h40 := hl.2.2.1.2
  have hf0 := hfz 0
  have hf1 := hfz 1
  have hf2 := hfz 2
  have HL := hid hl
  have HG := hid hG
  have HA := hid hA
  have HO := hid h
  have H64 := hid h64
  have H6t := hid h64t
  clear hl hfz h hok hG hA hg ht hrb hx h64 h64t
  rcases hT with rfl | ⟨rfl, hu⟩
  all_goals
    go_enter Try.func37, Try.ntmps37
    go_wp2_with fail
    refine Calls.mono HG.out ?_
    rintro e w' ⟨rfl, rfl⟩
    go_wp2_with fail
    refine Calls.mono HA.out ?_
    rintro e w1 ⟨rfl, hb1⟩
    have h21 := (hb1.cell (p := ⟨b, 2, none⟩) hbl).trans h2
    have hs1 := hb1.size
    have hbl1 : b < w1.heap.size := by omega
    have HL1 := hid (HL.out.below hb1)
    go_wp2
    go_loopw [9, 35] (fun v z wr => ∃ k : Nat, k ≤ s.l.length ∧ z = .int .i64 k ∧ v = .slice none 0 0 ∧ Ext w1 wr) (fun _ z _ => s.l.length - (intOf z).toNat)
    case atStart => exact ⟨0, Nat.zero_le _, rfl, rfl, Below.refl _ _⟩
    case round =>
      obtain ⟨k, hk, rfl, rfl, hb⟩ := hrel
      by_cases hlt : k < s.l.length
      · obtain ⟨p, o, rfl, -, hpl, hkl, -, -, hc0, hc1, a', n', c', hc2, -⟩ := (HL1.out.below hb).at_ hlt
        generalize s.l[k].i = Ei at *
        generalize s.l[k].t = Et at *
        go_wp2
        go_roundw
        case rel => exact ⟨k + 1, by omega, by go_num, rfl, hb.alloc (by have := hb.size; omega) _⟩
        case measure => simp [intOf]; omega
      · have hx := Ext.trans' hb1 hb
        have e0 := (hx.cell (p := ⟨b, 0, none⟩) hbl).trans h0
        have e1 := (hx.cell (p := ⟨b, 1, none⟩) hbl).trans h1
        have e2 := (hx.cell (p := ⟨b, 2, none⟩) hbl).trans h2
        have f0 := (hx.frozen (p := ⟨b, 0, none⟩) hbl).trans hf0
        have f1 := (hx.frozen (p := ⟨b, 1, none⟩) hbl).trans hf1
        have f2 := (hx.frozen (p := ⟨b, 2, none⟩) hbl).trans hf2
        have hsr := hx.size
        have hblr : b < wr.heap.size := by omega
        go_wp2
        go_ret
        exact ⟨rfl, RefAt.setAll (l := []) (a := none) (c := 0) HO.out (hx.block b hbl) H64.out H6t.out ((EsF.nil_ (fun _ => False) wr).more (fun _ h => h.elim)) HO.out.far, grown_setAll hx _ _ _⟩

theorem take_drop_low {α : Type} (l : List α) (k j : Nat) (h : k < j) : (l.take (k + 1)).drop j = (l.take k).drop j := by
  rw [List.drop_eq_nil_of_le (by simp; omega), List.drop_eq_nil_of_le (by simp; omega)]
theorem take_drop_high {α : Type} (l : List α) (k j : Nat) (h : j ≤ k) (hk : k < l.length) : (l.take (k + 1)).drop j = (l.take k).drop j ++ [l[k]] := by
  rw [List.take_succ_eq_append_getElem hk, List.drop_append_of_le_length (by simp; omega)]

set_option maxRecDepth 100000 in
set_option maxHeartbeats 4000000 in
theorem RRebase_some {F : Nat → Prop} {w : World} {b : Nat} {s : LS} (h : RefAt F w b s) (hF : ∀ k, w.heap.size ≤ k → F k) (hok : s.Ok) (x t : Int) (h64 : In64 x) (hg : goodS x t = true) (hx : s.i ≤ x) (ht : s.term x = some t) :
    Calls Try.prog 37 #[.pointer (some ⟨b, 0, none⟩), .int .i64 x, .int .i64 t] w fun e w' => e = .returned (.int .i64 0) ∧ RefAt F w' b (s.rebase x t) ∧ w.grownBy w' (some b) := by
  obtain ⟨a, c, h0, h1, h2, hfz, hl, hbl⟩ := h.cells
  have hG := RGood_any x t w
  rw [hg] at hG
  have hA := RAt_at h hok x
  rw [ht] at hA
  simp only [Option.getD_some, Option.isSome_some] at hA
  have hxb : decide (x < s.i) = false := by simp; omega
  obtain ⟨j, hj⟩ : ∃ j : Nat, x - s.i = j := ⟨(x - s.i).toNat, by omega⟩
  have hrb : s.rebase x t = ⟨x, t, s.l.drop j⟩ := by
    unfold LS.rebase; rw [if_pos ht]
    have : (x - s.i).toNat = j := by omega
    rw [this]
  rw [hrb]
  have h64t : In64 t := by have := (goodS_iff _ _).1 hg; simp [In64]; omega
  have h40 := hl.2.2.1.2
  have hf0 := hfz 0
  have hf1 := hfz 1
  have hf2 := hfz 2
  have HL := hid hl
  have HG := hid hG
  have HA := hid hA
  have HO := hid h
  have HK := hid hok
  have H64 := hid h64
  have H6t := hid h64t
  have HF := hid hF
  clear hl hfz h hok hG hA hg ht hrb hx h64 h64t hF
  go_enter Try.func37, Try.ntmps37
  go_wp2_with fail
  refine Calls.mono HG.out ?_
  rintro e w' ⟨rfl, rfl⟩
  go_wp2_with fail
  refine Calls.mono HA.out ?_
  rintro e w1 ⟨rfl, hb1⟩
  have h21 := (hb1.cell (p := ⟨b, 2, none⟩) hbl).trans h2
  have hs1 := hb1.size
  have hbl1 : b < w1.heap.size := by omega
  have HL1 := hid (HL.out.below hb1)
  go_wp2
  go_loopw [9, 35] (fun v z wr => ∃ (k n : Nat) (H : List EH) (ao : Option Addr) (co : Nat), k ≤ s.l.length ∧ z = .int .i64 k ∧ n ≤ k ∧ v = .slice ao n co ∧ Hid (n = ((s.l.take k).drop j).length) ∧
      Hid (HdF (fun b => F b ∧ b < w.heap.size) w1 H ((s.l.take k).drop j)) ∧ Hid (wr.ownsRow w1.heap.size 54 3 v n (rawH H)) ∧ Ext w1 wr) (fun _ z _ => s.l.length - (intOf z).toNat)
  case atStart => exact ⟨0, 0, [], none, 0, Nat.zero_le _, rfl, Nat.le_refl _, rfl, (by show 0 = _; simp), (by simpa using hid (HdF.nil _ _)), World.ownsRow_nil _ _ _ _, Below.refl _ _⟩
  case round =>
    obtain ⟨k, n, H, ao, co, hk, rfl, hnk, rfl, hn, HH, HR, hb⟩ := hrel
    by_cases hlt : k < s.l.length
    · obtain ⟨p, o, rfl, -, hpl, hkl, hx0, hx1, hc0, hc1, a', n', c', hc2, hd⟩ := (HL1.out.below hb).at_ hlt
      have hi := (HK.out.at_ hkl).1
      have hpush : j ≤ k → HdF (fun b => F b ∧ b < w.heap.size) w1 (H ++ [⟨s.l[k].i, s.l[k].t, a', n', c'⟩]) ((s.l.take (k + 1)).drop j) := fun hjk => by
        rw [take_drop_high _ _ _ hjk hkl]
        exact HH.out.push hx0 hx1 (by
          obtain ⟨p', o', he, -, -, hkl', -, -, -, -, a'', n'', c'', hc2', hd'⟩ := HL.out.lt.at_ hlt
          cases he
          have hwr := Ext.trans' hb1 hb
          have := (hwr.cell (p := ⟨p, o + k * 3 + 2, none⟩) (World.block_lt_of_cell? w _ hc2')).trans hc2'
          rw [hc2] at this
          cases this
          exact hd'.below hb1)
      have hlen : j ≤ k → n + 1 = ((s.l.take (k + 1)).drop j).length := fun hjk => by
        rw [take_drop_high _ _ _ hjk hkl, List.length_append, ← hn.out]; rfl
      have hlow : k < j → (s.l.take (k + 1)).drop j = (s.l.take k).drop j := take_drop_low _ _ _
      generalize s.l[k] = E at *
      have HP := hid hpush
      have HLN := hid hlen
      have HLW := hid hlow
      have hs := hb.size
      clear hd hpush hx0 hx1 hlen hlow
      have hA : (wr.alloc (.cells #[.int .i64 E.i, .int .i64 E.t, .slice a' n' c'] 54)).alloc (.cells #[.int .i64 E.i, .int .i64 E.t, .slice a' n' c'] 54) |>.ownsRow w1.heap.size 54 3 (.slice ao n co) n (rawH H) := (HR.out.alloc _).alloc _
      have hB := news_row (wr.alloc (.cells #[.int .i64 E.i, .int .i64 E.t, .slice a' n' c'] 54)) [.int .i64 E.i, .int .i64 E.t, .slice a' n' c'] 1 3 54 rfl
      have hx2 : Ext w1 ((wr.alloc (.cells #[.int .i64 E.i, .int .i64 E.t, .slice a' n' c'] 54)).alloc (.cells #[.int .i64 E.i, .int .i64 E.t, .slice a' n' c'] 54)) := Ext.trans' hb (Ext.trans' (ext_alloc _ _) (ext_alloc _ _))
      have HA := hid hA
      have HB := hid hB
      have HX2 := hid hx2
      clear hA hB hx2
      by_cases hjk : j ≤ k
      · have hgt : decide (x < E.i) = true := by simp; omega
        clear hi
        go_wp2_with (at_builtin; refine wpList_append_row rfl (.tmp 51) (.tmp 53) _ rfl w1.heap.size 54 (.agg #[.int .i64 0, .int .i64 0, .slice none 0 0]) 3 40 Try.underlying22 info_ent rfl (by decide) (.slice ao n co) n (rawH H) rfl HA.out (some ⟨wr.heap.size + 1, 0, none⟩) 1 1 [.int .i64 E.i, .int .i64 E.t, .slice a' n' c'] rfl (fun e => by cases e) (by have := HB.out; simpa using this) (by intro u hu; simp at hu; rcases hu with rfl | rfl | rfl <;> rfl) (by unfold maxLen; omega) (by omega) (by simp; omega) ?_; intro v' w2 hown1 hg; obtain ⟨a4, c4, rfl⟩ := own_slice hown1; have hx4 : Ext w1 w2 := HX2.out.grown hg (by simp; omega) (fun q hq => by have := HR.out.lt q hq; omega); have HO1 := hid hown1; clear hown1 hg)
        go_roundw
        case rel => exact ⟨k + 1, n + 1, H ++ [⟨E.i, E.t, a', n', c'⟩], a4, c4, by omega, by go_num, by omega, rfl, HLN.out hjk, hid (HP.out hjk), by
              have h1 := HO1.out
              show World.ownsRow _ _ _ _ _ (n + 1) _
              rw [rawH_push]
              simpa [EH.cells] using h1, hx4⟩
        case measure => simp [intOf]; omega
      · have hgt : decide (x < E.i) = false := by simp; omega
        clear hi
        go_wp2
        go_roundw
        case rel =>
          have hw := HLW.out (by omega)
          exact ⟨k + 1, n, H, ao, co, by omega, by go_num, by omega, rfl, (by show n = _; rw [hw]; exact hn.out), (by rw [hw]; exact HH), (HR.out.alloc _), hb.alloc hs _⟩
        case measure => simp [intOf]; omega
    · have hke : k = s.l.length := by omega
      rw [hke, List.take_length] at hn HH
      have hx := Ext.trans' hb1 hb
      have e0 := (hx.cell (p := ⟨b, 0, none⟩) hbl).trans h0
      have e1 := (hx.cell (p := ⟨b, 1, none⟩) hbl).trans h1
      have e2 := (hx.cell (p := ⟨b, 2, none⟩) hbl).trans h2
      have f0 := (hx.frozen (p := ⟨b, 0, none⟩) hbl).trans hf0
      have f1 := (hx.frozen (p := ⟨b, 1, none⟩) hbl).trans hf1
      have f2 := (hx.frozen (p := ⟨b, 2, none⟩) hbl).trans hf2
      have hsr := hx.size
      have hblr : b < wr.heap.size := by omega
      go_wp2
      go_ret
      obtain ⟨a5, c5, hv, he5⟩ := (HH.out.below hb).es (n := n) hn.out (by simp; omega) HR.out
      injection hv with q1 q2 q3
      subst q1; subst q3
      refine ⟨rfl, ?_, grown_setAll hx _ _ _⟩
      rw [show n = (s.l.drop j).length from hn.out]
      refine RefAt.setAll HO.out (hx.block b hbl) H64.out H6t.out (he5.more fun q hq => ?_) HO.out.far
      rcases hq with hq | hq
      · exact hq.1
      · exact HF.out q (by omega)
end Go.Proofs.Ytjcmgkdlkadfmaa
