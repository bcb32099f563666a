/- The walk of the law LedgerFresh. -/
import Derived.Test.YtjcmgkdlkadfmaaLc3
namespace Go.Proofs.Ytjcmgkdlkadfmaa
open Go.RowKit
set_option linter.unusedVariables false
set_option linter.unusedSimpArgs false
attribute [local go_sem] bmax2 bmin2 bmax_two bmin_two

/-- One list in a new block. -/
theorem LLsF.one {F : Nat → Prop} {w : World} {a : Option Addr} {n c : Nat} {l : List Ent} (t : TypeId) (h : EsF F w a n c l) {q : Nat} (hq : q = w.heap.size) : LLsF F (w.alloc (.cells #[.slice a n c] t)) (some ⟨q, 0, none⟩) 1 [l] := by
  subst hq
  refine ⟨rfl, by decide, (fun e => by cases e), fun p hp => ?_⟩
  cases hp
  refine ⟨rfl, fun k hk => ?_⟩
  match k, hk with
  | 0, _ =>
    refine ⟨a, n, c, ?_, h.below (ext_alloc _ _)⟩
    unfold World.cell?; rw [heap_alloc_new]; rfl

set_option maxRecDepth 100000 in
set_option maxHeartbeats 2000000 in
theorem LedgerFresh_calls {F : Nat → Prop} (i t x y : Int) (a : Option Addr) (n c : Nat) (l : List Ent) (w : World) (hi : In64 i) (ht : In64 t) (hl : EsF F w a n c l) :
    Calls Try.prog 3 #[baseV i t a n c, .int .i64 x, .int .i64 y] w fun e w' => e = .returned (.bool true) ∧ Ext w w' := by
  have HL := hid hl
  have HI := hid hi
  have HT := hid ht
  clear hl hi ht
  go_enter Try.func3, Try.ntmps3
  go_wp2_with fail
  refine (light_any F _ _ _ [l] _ (by exact LLsF.one _ (HL.out.below (ext_alloc _ _)) (by simp))).mono ?_
  rintro e w1 ⟨bb, rfl, hbb, rfl⟩
  have hx1 : Ext w ((w.alloc (.cells #[.int .i64 i, .int .i64 t, .slice a n c] 24)).alloc (.cells #[.slice a n c] 22)) := Ext.trans' (ext_alloc _ _) (ext_alloc _ _)
  have HBB := hid hbb
  clear hbb
  cases bb with
  | false =>
    go_wp2_with fail
    refine (awake_any _).mono ?_
    rintro e w2 ⟨rfl, hb2⟩
    go_wp2
    go_ret
    exact ⟨rfl, Ext.trans' hx1 hb2⟩
  | true =>
    go_wp2_with fail
    by_cases hok : LS.Ok ⟨i, t, l⟩
    · refine (made_ok i t a n c l _ HI.out HT.out (by exact HL.out.below hx1) hok).mono ?_
      rintro e w2 ⟨b, b', rfl, hled, href, hb1, hb2, hbb, hx2⟩
      have HLED := hid hled
      have HREF := hid href
      clear hled href hb1 hb2 hbb
      go_wp2_with fail
      refine (Fresh_at HLED.out x y).mono ?_
      rintro e w' ⟨rfl, k, rfl⟩
      go_wp2_with fail
      refine (RFresh_at (HREF.out.drewN _) x y).mono ?_
      rintro e w3 ⟨rfl, hx3⟩
      have hx4 := Ext.trans' hx1 (Ext.trans' hx2 (ext_of_drewN hx3))
      generalize LS.fresh ⟨i, t, l⟩ x y = fb at *
      cases fb
      all_goals
        go_wp2_with fail
        refine (awake_any _).mono ?_
        rintro e w5 ⟨rfl, hb5⟩
        go_wp2
        go_ret
        exact ⟨rfl, Ext.trans' hx4 hb5⟩
    · refine (made_bad i t a n c l _ HI.out (by exact HL.out.below hx1) hok).mono ?_
      rintro e w2 ⟨rfl, hx2⟩
      go_wp2_with fail
      refine (awake_any _).mono ?_
      rintro e w3 ⟨rfl, hb3⟩
      go_wp2
      go_ret
      exact ⟨rfl, Ext.trans' hx1 (Ext.trans' hx2 hb3)⟩
end Go.Proofs.Ytjcmgkdlkadfmaa
