/- The walk of the law's Same. -/
import Derived.Test.YtjapeaoebjmpnaaGreatDoorB17
import Derived.BigQuiet
namespace Go.Proofs.YtjapeaoebjmpnaaGreatDoor
open Go.RowKit Go.Maps
set_option linter.unusedVariables false
set_option linter.unusedSimpArgs false
attribute [local go_sem] bmax2 bmin2 bmax_two bmin_two

/-- Are two states? -/
def sameS (a b : Sn) : Bool := decide (a.i = b.i) && decide (a.t = b.t) && decide (a.d = b.d) && decide (a.vs = b.vs)
theorem sameS_iff {a b : Sn} : sameS a b = true ↔ a = b := by
  obtain ⟨i, t, v, d⟩ := a
  obtain ⟨i', t', v', d'⟩ := b
  unfold sameS
  simp only [Bool.and_eq_true, decide_eq_true_eq, Sn.mk.injEq]
  constructor
  · rintro ⟨⟨⟨h1, h2⟩, h3⟩, h4⟩; exact ⟨h1, h2, h4, h3⟩
  rintro ⟨h1, h2, h4, h3⟩; exact ⟨⟨⟨h1, h2⟩, h3⟩, h4⟩
theorem sameS_no {a b : Sn} (h : a ≠ b) : sameS a b = false := by
  cases hs : sameS a b with
  | false => rfl
  | true => exact absurd (sameS_iff.1 hs) h

set_option maxRecDepth 100000 in
set_option maxHeartbeats 4000000 in
theorem Same_any {F G : Nat → Prop} {w : World} {va vb : Value} {a b : Sn} (ha : SnV F w va a) (hb : SnV G w vb b) :
    Calls Tryz.prog 19 #[va, vb] w (fun e w' => e = .returned (.bool (sameS a b)) ∧ Ext w w') := by
  obtain ⟨aa, an, ac, ad, am, ak, rfl, -, -, a1, a2⟩ := ha
  obtain ⟨ba, bn, bc, bd, bm, bk, rfl, -, -, b1, b2⟩ := hb
  obtain ⟨ai, at_, av, adt⟩ := a
  obtain ⟨bi, bt, bv, bdt⟩ := b
  dsimp only at *
  obtain ⟨R, hR⟩ : ∃ R, R = sameS ⟨ai, at_, av, adt⟩ ⟨bi, bt, bv, bdt⟩ := ⟨_, rfl⟩
  rw [← hR]
  have HR := hid hR
  have HA1 := hid (fun W (hW : Ext w W) => a1.below hW)
  have HB1 := hid (fun W (hW : Ext w W) => b1.below hW)
  have HAN := hid (show an = av.length from a1.1)
  have HBN := hid (show bn = bv.length from b1.1)
  have han8 : an ≤ 1000000000000000 := by have := a1.2.2.1.2; omega
  have HC := hid (fun W (hW : Ext w W) => conv_str (a2.below hW))
  have HD := hid (fun W (hW : Ext w W) => conv_str (b2.below hW))
  clear a1 a2 b1 b2 hR
  go_enter Tryz.func19, Tryz.ntmps19
  have hx2 : Ext w ((w.alloc (.cells #[.int .i64 ai, .int .i64 at_, .slice aa an ac, .slice ad am ak] 25)).alloc (.cells #[.int .i64 bi, .int .i64 bt, .slice ba bn bc, .slice bd bm bk] 25)) := (ext_alloc _ _).trans' (ext_alloc _ _)
  have hcv := HC.out _ hx2
  have hdv := HD.out _ hx2
  have HX2 := hid hx2
  clear hx2
  by_cases h1 : ai = bi
  · by_cases h2 : at_ = bt
    · by_cases h3 : adt = bdt
      · by_cases h4 : an = bn
        · subst h1; subst h2; subst h3; subst h4
          have hw1 : ∀ W, Ext ((w.alloc (.cells #[.int .i64 ai, .int .i64 at_, .slice aa an ac, .slice ad am ak] 25)).alloc (.cells #[.int .i64 ai, .int .i64 at_, .slice ba an bc, .slice bd bm bk] 25)) W →
              (W.cell? ⟨w.heap.size, 2, none⟩ = some (.slice aa an ac) ∧ W.cell? ⟨w.heap.size + 1, 2, none⟩ = some (.slice ba an bc)) := fun W hW => by
            have e1 := (hW.block w.heap.size (by simp; omega)).trans (heap_alloc2_old w _ _)
            have e2 := (hW.block (w.heap.size + 1) (by simp)).trans (heap_alloc2_new w (.cells #[.int .i64 ai, .int .i64 at_, .slice aa an ac, .slice ad am ak] 25) _)
            exact ⟨(cells4 e1).1.2.2.1, (cells4 e2).1.2.2.1⟩
          have HW1 := hid hw1
          clear hw1
          go_wp2
          generalize (w.alloc (.cells #[.int .i64 ai, .int .i64 at_, .slice aa an ac, .slice ad am ak] 25)).alloc (.cells #[.int .i64 ai, .int .i64 at_, .slice ba an bc, .slice bd bm bk] 25) = W2 at *
          clear hcv hdv
          go_loopw [5, 39] (fun _ z wr => ∃ (k : Nat), k ≤ an ∧ z = .int .i64 (k : Int) ∧ Hid (Ext W2 wr) ∧ Hid (av.take k = bv.take k)) (fun _ z _ => an - (intOf z).toNat)
          case atStart => exact ⟨0, Nat.zero_le _, rfl, Below.refl _ _, by simp [Hid]⟩
          obtain ⟨k, hk, rfl, HX, HT⟩ := hrel
          by_cases hlt : k < an
          · obtain ⟨b1, o1, e1, l1, m1, q1, -⟩ := (HA1.out wr (HX2.out.trans' HX.out)).at_ hlt
            obtain ⟨b2, o2, e2, l2, m2, q2, -⟩ := (HB1.out wr (HX2.out.trans' HX.out)).at_ hlt
            obtain ⟨c1, c2⟩ := HW1.out wr HX.out
            subst e1; subst e2
            have hki : (0 : Int) ≤ (k : Int) := by omega
            have hki2 : (k : Int) < (an : Int) := by omega
            have t1 := List.take_succ_eq_append_getElem m1
            have t2 := List.take_succ_eq_append_getElem m2
            obtain ⟨x, hx⟩ : ∃ x, x = av[k] := ⟨_, rfl⟩
            obtain ⟨y, hy⟩ : ∃ y, y = bv[k] := ⟨_, rfl⟩
            rw [← hx] at q1 t1
            rw [← hy] at q2 t2
            have HT1 := hid t1
            have HT2 := hid t2
            have HXX := hid hx
            have HYY := hid hy
            have HM := hid (show k < av.length ∧ k < bv.length from ⟨m1, m2⟩)
            clear t1 t2 hx hy
            by_cases hxy : x = y
            · subst hxy
              go_wp2
              go_quiet (fail)
              go_wp2
              go_roundw
              case rel => exact ⟨k + 1, by omega, by go_num, HX.out.trans' (ext_drewN wr _), hid (by rw [HT1.out, HT2.out, HT.out])⟩
              case measure => simp [intOf]; omega
            have hb1 : (x != y) = true := by simpa using hxy
            have HXY := hid hxy
            clear hxy
            go_wp2
            go_quiet (fail)
            go_wp2
            go_ret
            rw [HR.out, sameS_no (by
              intro e
              injection e with _ _ e _
              subst e
              exact HXY.out (HXX.out.trans HYY.out.symm))]
            exact ⟨rfl, HX2.out.trans' (HX.out.trans' (ext_drewN wr _))⟩
          have hk2 : k = an := by omega
          have HE := hid (show R = true by
            rw [HR.out]
            refine sameS_iff.2 ?_
            have h := HT.out
            rw [hk2, List.take_of_length_le (by have := HAN.out; omega), List.take_of_length_le (by have := HBN.out; omega)] at h
            rw [h])
          clear hk2
          go_wp2
          go_ret
          rw [HE.out]
          exact ⟨rfl, HX2.out.trans' HX.out⟩
        have hb1 : ((an : Int) != (bn : Int)) = true := by simp; omega
        have HF := hid (show R = false by rw [HR.out]; exact sameS_no (fun e => h4 (by rw [HAN.out, HBN.out]; exact congrArg (fun s => s.vs.length) e)))
        clear h4
        subst h1; subst h2; subst h3
        go_wp2
        go_ret
        rw [HF.out]
        exact ⟨rfl, HX2.out⟩
      have hb1 : ¬ adt = bdt := h3
      have HF := hid (show R = false by rw [HR.out]; exact sameS_no (fun e => h3 (congrArg Sn.d e)))
      clear h3
      subst h1; subst h2
      go_wp2
      go_ret
      rw [HF.out]
      exact ⟨rfl, HX2.out⟩
    have hb1 : (at_ != bt) = true := by simpa using h2
    have HF := hid (show R = false by rw [HR.out]; exact sameS_no (fun e => h2 (congrArg Sn.t e)))
    clear h2
    subst h1
    go_wp2
    go_ret
    rw [HF.out]
    exact ⟨rfl, HX2.out⟩
  have hb1 : (ai != bi) = true := by simpa using h1
  have HF := hid (show R = false by rw [HR.out]; exact sameS_no (fun e => h1 (congrArg Sn.i e)))
  clear h1
  go_wp2
  go_ret
  rw [HF.out]
  exact ⟨rfl, HX2.out⟩
end Go.Proofs.YtjapeaoebjmpnaaGreatDoor
