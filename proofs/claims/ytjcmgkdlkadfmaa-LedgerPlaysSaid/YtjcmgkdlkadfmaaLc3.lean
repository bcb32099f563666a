/- The walk of awake. -/
import Derived.Test.YtjcmgkdlkadfmaaLc2
namespace Go.Proofs.Ytjcmgkdlkadfmaa
open Go.RowKit
set_option linter.unusedVariables false
set_option linter.unusedSimpArgs false
attribute [local go_sem] bmax2 bmin2 bmax_two bmin_two

def awS : LS := ⟨0, 0, [⟨1, 1, []⟩, ⟨2, 1, []⟩, ⟨3, 2, []⟩]⟩
def awM : List Ent := [⟨3, 3, []⟩]
theorem aw_ok : awS.Ok := ⟨by decide, by simp [awS, risesS, fitsS, wrap64]; decide⟩
theorem aw_rises : risesS 2 1 awM = true := by simp [awM, risesS, fitsS, wrap64]
theorem aw_last : awS.lastI = 3 := by decide
theorem aw_term : awS.term 2 = some 1 := by decide
theorem aw_hint2 : awS.hint 2 = 1 := by decide
theorem aw_hint9 : awS.hint 9 = 4 := by decide
theorem aw_fresh : awS.fresh 3 2 = true := by decide
theorem aw_fresh2 : awS.fresh 9 1 = false := by decide
theorem aw_merge : mergeGo awS awM = (3, awM, true) := by rfl
theorem aw_terms : termsE [1, 1, 2] 3 = awS.l := by rfl

set_option maxRecDepth 100000 in
set_option maxHeartbeats 2000000 in
theorem awake_any (w : World) : Calls Try.prog 14 #[] w fun e w' => e = .returned (.bool true) ∧ Ext w w' := by
  have hcell : ∀ k, (h : k < [(1 : Int), 1, 2].length) → In64 [(1 : Int), 1, 2][k] ∧ (w.alloc (.cells #[.int .i64 1, .int .i64 1, .int .i64 2] 3)).cell? ⟨w.heap.size, k, none⟩ = some (.int .i64 [(1 : Int), 1, 2][k]) := by
    intro k hk
    match k, hk with
    | 0, _ => exact ⟨(show In64 (1 : Int) from ⟨by decide, by decide⟩), by unfold World.cell?; rw [heap_alloc_new]; rfl⟩
    | 1, _ => exact ⟨(show In64 (1 : Int) from ⟨by decide, by decide⟩), by unfold World.cell?; rw [heap_alloc_new]; rfl⟩
    | 2, _ => exact ⟨(show In64 (2 : Int) from ⟨by decide, by decide⟩), by unfold World.cell?; rw [heap_alloc_new]; rfl⟩
  have HC := hid hcell
  clear hcell
  go_enter Try.func14, Try.ntmps14
  go_wp2_with fail
  refine (terms_any w.heap.size 3 [1, 1, 2] _ HC.out (by decide)).mono ?_
  rintro e w1 ⟨a1, c1, rfl, he1, hb1⟩
  have hx1 : Ext w w1 := Ext.trans' (ext_alloc _ _) hb1
  have HE1 := hid he1
  clear he1 hb1 HC
  go_wp2_with fail
  refine (New_ok 0 0 a1 3 c1 awS.l _ ⟨by decide, by decide⟩ ⟨by decide, by decide⟩ (by exact HE1.out) aw_ok).mono ?_
  rintro e w2 ⟨b, rfl, hled, hbb, hb2⟩
  have hx2 : Ext w w2 := Ext.trans' hx1 hb2
  have HLED := hid hled
  clear hled HE1
  have hmore : EsF (fun _ => True) (w2.alloc (.cells #[.int .i64 3, .int .i64 3, .slice none 0 0] 54)) (some ⟨w2.heap.size, 0, none⟩) 1 1 awM := by
    refine ⟨rfl, Nat.le_refl _, ⟨by unfold maxLen; omega, by decide⟩, (fun e => by cases e), fun p hp => ?_⟩
    cases hp
    refine ⟨fun _ => rfl, fun k hk => ⟨trivial, ?_⟩⟩
    match k, hk with
    | 0, _ =>
      refine ⟨(show In64 (3 : Int) from ⟨by decide, by decide⟩), (show In64 (3 : Int) from ⟨by decide, by decide⟩), ?_, ?_, none, 0, 0, ?_, ByF.nil_ _ _⟩
      all_goals (unfold World.cell?; rw [heap_alloc_new]; rfl)
  have HM := hid hmore
  clear hmore
  go_wp2_with fail
  refine (Merge_ok (s := awS) (HLED.out.below (ext_alloc _ _)) aw_ok 2 1 ⟨by decide, by decide⟩ HM.out aw_rises (by rw [aw_last]; decide) (fun _ => aw_term)).mono ?_
  rintro e w3 ⟨v, rfl, hown, hb3⟩
  rw [aw_merge] at *
  obtain ⟨a3, c3, hv, -⟩ := hown.es
  have hv' : v = .slice a3 1 c3 := hv
  subst hv'
  clear hv
  have hx3 : Ext w2 w3 := Ext.trans' (ext_alloc _ _) hb3
  have HL3 : Hid (LedAt (fun k => w1.heap.size ≤ k ∧ k ≠ b) w3 b awS) := hid (HLED.out.below hx3)
  clear hown
  go_wp2_with fail
  refine (Hint_at HL3.out aw_ok 2 ⟨by decide, by decide⟩).mono ?_
  rintro e w' ⟨rfl, k1, rfl⟩
  rw [aw_hint2]
  go_wp2_with fail
  refine (Hint_at (HL3.out.drewN _) aw_ok 9 ⟨by decide, by decide⟩).mono ?_
  rintro e w' ⟨rfl, k2, rfl⟩
  rw [aw_hint9]
  go_wp2_with fail
  refine (Fresh_at (HL3.out.drewN _) 3 2).mono ?_
  rintro e w' ⟨rfl, k3, rfl⟩
  rw [aw_fresh]
  go_wp2_with fail
  refine (Fresh_at (HL3.out.drewN _) 9 1).mono ?_
  rintro e w' ⟨rfl, k4, rfl⟩
  rw [aw_fresh2]
  go_wp2
  go_ret
  exact ⟨rfl, below_drewN (Ext.trans' hx2 hx3) _⟩
end Go.Proofs.Ytjcmgkdlkadfmaa
