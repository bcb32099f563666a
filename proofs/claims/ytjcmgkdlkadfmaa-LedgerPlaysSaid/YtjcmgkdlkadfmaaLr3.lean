/- The walks of the reference's New and Hint. -/
import Derived.Test.YtjcmgkdlkadfmaaLr2
namespace Go.Proofs.Ytjcmgkdlkadfmaa
open Go.RowKit
set_option linter.unusedVariables false
set_option linter.unusedSimpArgs false
attribute [local go_sem] bmax2 bmin2 bmax_two bmin_two

set_option maxHeartbeats 1000000 in
theorem RNew_bad {F : Nat → Prop} (i t : Int) (a : Option Addr) (n c : Nat) (l : List Ent) (w : World) (hi : In64 i) (hl : EsF F w a n c l) (hok : ¬ LS.Ok ⟨i, t, l⟩) :
    Calls Try.prog 23 #[.int .i64 i, .int .i64 t, .slice a n c] w fun e w' => e = .returned (.tuple #[.pointer none, .int .i64 110]) ∧ Ext w w' := by
  have hgc := RGood_any i t w
  have hrc := RRises_any F i t a n c l w hi hl
  have HG := hid hgc
  have HR := hid hrc
  clear hgc hrc
  by_cases hg : goodS i t = true
  · have him := ((goodS_iff i t).1 hg).2.1
    have hr : rrisesS i t l = false := by
      unfold rrisesS
      rw [if_pos him, ← Bool.not_eq_true]
      exact fun hr => hok ⟨hg, hr⟩
    rw [hg] at HG
    rw [hr] at HR
    clear hg hr hl hi hok him
    go_enter Try.func23, Try.ntmps23
    go_wp2_with (first
      | (go_at_call 47; refine Calls.mono HG.out ?_; rintro e w' ⟨rfl, rfl⟩)
      | (go_at_call 48; refine Calls.mono HR.out ?_; rintro e w1 ⟨rfl, hb1⟩))
    go_ret2
    exact ⟨rfl, hb1⟩
  · have hg : goodS i t = false := by rw [← Bool.not_eq_true]; exact hg
    rw [hg] at HG
    clear hg hl hi hok HR
    go_enter Try.func23, Try.ntmps23
    go_wp2_with (first
      | (go_at_call 47; refine Calls.mono HG.out ?_; rintro e w' ⟨rfl, rfl⟩))
    go_ret2
    exact ⟨rfl, Below.refl _ _⟩

set_option maxHeartbeats 1000000 in
theorem RNew_ok {F : Nat → Prop} (i t : Int) (a : Option Addr) (n c : Nat) (l : List Ent) (w : World) (hi : In64 i) (ht : In64 t) (hl : EsF F w a n c l) (hok : LS.Ok ⟨i, t, l⟩) :
    Calls Try.prog 23 #[.int .i64 i, .int .i64 t, .slice a n c] w fun e w' => ∃ b, e = .returned (.tuple #[.pointer (some ⟨b, 0, none⟩), .int .i64 0]) ∧
      RefAt (fun k => (F k ∧ k < w.heap.size) ∨ (w.heap.size ≤ k ∧ k ≠ b)) w' b ⟨i, t, l⟩ ∧ w.heap.size ≤ b ∧ Ext w w' := by
  obtain ⟨hg, hr⟩ := hok
  dsimp only at hg hr
  have him := ((goodS_iff i t).1 hg).2.1
  have hgc := RGood_any i t w
  have hrc := RRises_any F i t a n c l w hi hl
  rw [hg] at hgc
  have hrr : rrisesS i t l = true := by unfold rrisesS; rw [if_pos him]; exact hr
  rw [hrr] at hrc
  obtain ⟨H, hH, hrow, hHl⟩ := hl.lt.raw
  have h64 := hl.in64
  have hnl := hl.1
  have h40 := hl.2.2.1.2
  have hca := hl.2.2.2.1
  have HG := hid hgc
  have HR := hid hrc
  have HH := hid hH
  have HW := hid hrow
  have HHL := hid hHl
  have H64 := hid h64
  have HN := hid hnl
  have HA := hid hca
  have HI := hid hi
  have HT := hid ht
  clear hgc hrc hl hg hr hi ht him hrr hH hrow hHl h64 hnl hca
  go_enter Try.func23, Try.ntmps23
  go_wp2_with (first
    | (go_at_call 47; refine Calls.mono HG.out ?_; rintro e w' ⟨rfl, rfl⟩)
    | (go_at_call 48; refine Calls.mono HR.out ?_; rintro e w1 ⟨rfl, hb1⟩)
    | (at_builtin; refine wpList_append_row rfl (.tmp 21) (.tmp 22) _ rfl w1.heap.size 54 (.agg #[.int .i64 0, .int .i64 0, .slice none 0 0]) 3 40 Try.underlying22 info_ent rfl (by decide) (.slice (some ⟨w1.heap.size, 0, none⟩) 0 0) 0 [] rfl (World.ownsRow_made w1 #[] 0 (Nat.le_refl _) (Nat.zero_le _) rfl) a n c (rawH H) rfl HA.out (HW.out.ext (Ext.trans' hb1 (ext_alloc _ _))) (rawH_mem H) (by unfold maxLen; omega) (by omega) (by simp) ?_; intro v' w2 hown hg; have hx2 : Ext w1 w2 := (ext_alloc w1 _).grown hg (by simp) (by simp [Value.ownBlock]); obtain ⟨a3, c3, rfl, he3⟩ := EsF.of_own (F := fun q => F q ∧ q < w.heap.size) HH.out (by rw [HN.out]; simp) (by rw [← HN.out]; exact h40) hown (fun k h1 h2 => by obtain ⟨e1, e2, e3⟩ := HHL.out k h1 h2; exact ⟨e1, e2, e3.keep fun q hq hs => ⟨hq, (Ext.trans' hb1 hx2).block q hs⟩⟩) H64.out; clear hown hg))
  go_ret2
  have hs1 := hb1.size
  have hs2 := hx2.size
  have hx : Ext w w2 := Ext.trans' hb1 hx2
  refine ⟨_, rfl, ⟨⟨a3, c3, heap_alloc_new w2 _, he3.lt.keep fun k hk hs => ⟨?_, Below.heap_alloc w2 _ k hs⟩⟩, ?_, HI.out, HT.out⟩, by omega, hx.alloc hx.size _⟩
  · obtain ⟨hk, hlt⟩ := hk
    rcases hk with hk | hk
    · exact .inl hk
    · exact .inr ⟨by omega, by omega⟩
  · rintro (hk | hk)
    · exact absurd hk.2 (by omega)
    · exact hk.2 rfl

set_option maxHeartbeats 2000000 in
theorem RHint_at {F : Nat → Prop} {w : World} {b : Nat} {s : LS} (h : RefAt F w b s) (hok : s.Ok) (x : Int) (hx : In64 x) :
    Calls Try.prog 21 #[.pointer (some ⟨b, 0, none⟩), .int .i64 x] w fun e w' =>
      e = .returned (.int .i64 (s.hint x)) ∧ Ext w w' := by
  obtain ⟨a, c, h0, h1, h2, -, -, hbl⟩ := h.cells
  obtain ⟨hx1, hx2⟩ := hx
  have hB := hok.bounds
  have hlast := hok.lastI_eq
  have hle := hok.last_le
  have hT : ∀ y W, RefAt F W b s → Calls Try.prog 25 #[.pointer (some ⟨b, 0, none⟩), .int .i64 y] W fun e w' =>
      e = .returned (.tuple #[.int .i64 ((s.term y).getD 0), .bool (s.term y).isSome]) ∧ Ext W w' := fun y W hW => RAt_at hW hok y
  have hcall := RLast_at h
  have H := hid h
  clear h h2 h1
  unfold LS.hint
  generalize s.lastI = z at *
  have hz1 : s.i ≤ z := by omega
  have hz2 : z ≤ 1099511627776 := by omega
  have HL := hid hlast
  have HC := hid hcall
  have HT := hid hT
  clear hcall hlast hT hok hle
  by_cases c1 : z < x
  · rw [if_pos c1]
    go_enter Try.func21, Try.ntmps21
    go_wp2_with (go_at_call 43; refine Calls.mono HC.out ?_; rintro e w1 ⟨rfl, hb1⟩)
    go_ret
    exact ⟨rfl, hb1⟩
  · rw [if_neg c1]
    obtain ⟨m, hm⟩ : ∃ m, m = max x (s.i + 1) := ⟨_, rfl⟩
    rw [← hm]
    have hm1 : s.i + 1 ≤ m := by omega
    have hm2 : m ≤ 1099511627777 := by omega
    obtain ⟨d, hd⟩ : ∃ d : Nat, m = s.i + 1 + d := ⟨(m - (s.i + 1)).toNat, by omega⟩
    have hdn : (m - (s.i + 1)).toNat = d := by omega
    rw [hdn]
    have hm' : max x (s.i + 1) = m := hm.symm
    have HD := hid hd
    clear hm hd hdn
    by_cases hs : (s.term m).isSome = true
    · rw [if_pos hs]
      have hcm := HT.out m
      rw [hs] at hcm
      generalize (s.term m).getD 0 = tt at *
      obtain ⟨r, hr⟩ : ∃ r, r = downG (fun y => (s.term y).getD 0) tt (s.i + 1) d := ⟨_, rfl⟩
      rw [← hr]
      have HR := hid hr
      have HCM := hid hcm
      clear hcm hs hr
      go_enter Try.func21, Try.ntmps21
      go_wp2_with (first
        | (go_at_call 43; refine Calls.mono HC.out ?_; rintro e w1 ⟨rfl, hb1⟩; have h0' := (hb1.cell (p := ⟨b, 0, none⟩) hbl).trans h0)
        | (go_at_call 25; refine Calls.mono (HCM.out _ (H.out.below hb1)) ?_; rintro e w2 ⟨rfl, hb2⟩))
      clear hm' h0'
      go_loopw [7] (fun y wr => ∃ j : Nat, j ≤ d ∧ y = .int .i64 (s.i + 1 + j) ∧ Hid (r = downG (fun y => (s.term y).getD 0) tt (s.i + 1) j) ∧ Ext w wr) (fun y _ => (intOf y - s.i).toNat)
      case atStart => exact ⟨d, Nat.le_refl _, by rw [← HD.out], HR.out, Ext.trans' hb1 hb2⟩
      case round =>
        clear hb1 hb2
        obtain ⟨j, hj, rfl, HJ, hb⟩ := hrel
        have h0r := (hb.cell (p := ⟨b, 0, none⟩) hbl).trans h0
        have hdd := HD.out
        have hjd : s.i + 1 + (j : Int) ≤ m := by omega
        clear hdd
        cases j with
        | zero =>
          go_wp2
          go_ret
          exact ⟨by rw [HJ.out]; simp [downG], hb⟩
        | succ j =>
          have e1 : ((j + 1 : Nat) : Int) = (j : Int) + 1 := by omega
          rw [e1] at *
          clear e1
          have hjd2 : s.i + 1 + (j : Int) + 1 ≤ m := by omega
          have hcj := HT.out (s.i + 1 + j)
          generalize hG : (s.term (s.i + 1 + j)).getD 0 = tj at *
          generalize (s.term (s.i + 1 + j)).isSome = bj at *
          have hst : downG (fun y => (s.term y).getD 0) tt (s.i + 1) (j + 1) = if tj = tt then downG (fun y => (s.term y).getD 0) tt (s.i + 1) j else s.i + 1 + (j + 1) := by
            rw [← hG]; rfl
          have HCJ := hid hcj
          have HST := hid hst
          clear hcj hst hG hjd
          by_cases htt : tj = tt
          · subst htt
            go_wp2_with fail
            rw [show s.i + 1 + ((j : Int) + 1) - 1 = s.i + 1 + (j : Int) from by omega]
            refine (HCJ.out _ (H.out.below hb)).mono ?_
            rintro e w' ⟨rfl, hb3⟩
            go_wp2
            go_roundw
            case rel => exact ⟨j, by omega, by rw [show s.i + 1 + ((j : Int) + 1) - 1 = s.i + 1 + (j : Int) from by omega], by rw [HJ.out, HST.out]; simp [Hid], Ext.trans' hb hb3⟩
            case measure => simp [intOf]; omega
          · have hbt : (tj == tt) = false := by simpa using htt
            go_wp2_with fail
            rw [show s.i + 1 + ((j : Int) + 1) - 1 = s.i + 1 + (j : Int) from by omega]
            refine (HCJ.out _ (H.out.below hb)).mono ?_
            rintro e w' ⟨rfl, hb3⟩
            go_wp2
            go_ret
            exact ⟨by rw [HJ.out, HST.out]; simp [htt], Ext.trans' hb hb3⟩
    · have hsf : (s.term m).isSome = false := by simpa using hs
      rw [if_neg hs]
      have hcm := HT.out m
      rw [hsf] at hcm
      generalize (s.term m).getD 0 = tt at *
      have HCM := hid hcm
      clear hcm hs hsf
      go_enter Try.func21, Try.ntmps21
      go_wp2_with (first
        | (go_at_call 43; refine Calls.mono HC.out ?_; rintro e w1 ⟨rfl, hb1⟩; have h0' := (hb1.cell (p := ⟨b, 0, none⟩) hbl).trans h0)
        | (go_at_call 25; refine Calls.mono (HCM.out _ (H.out.below hb1)) ?_; rintro e w2 ⟨rfl, hb2⟩))
      clear h0'
      go_loopw [7] (fun y wr => y = .int .i64 m ∧ Ext w wr) (fun y _ => 0)
      case atStart => exact ⟨rfl, Ext.trans' hb1 hb2⟩
      case round =>
        obtain ⟨rfl, hb⟩ := hrel
        go_wp2
        go_ret
        exact ⟨rfl, hb⟩
end Go.Proofs.Ytjcmgkdlkadfmaa
