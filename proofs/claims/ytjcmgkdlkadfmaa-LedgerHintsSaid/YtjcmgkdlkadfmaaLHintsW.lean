/- The walk of the law LedgerHints. -/
import Derived.Test.YtjcmgkdlkadfmaaLFreshW
namespace Go.Proofs.Ytjcmgkdlkadfmaa
open Go.RowKit
set_option linter.unusedVariables false
set_option linter.unusedSimpArgs false
attribute [local go_sem] bmax2 bmin2 bmax_two bmin_two

theorem downG_bounds (T : Int → Int) (t base : Int) (d : Nat) : base ≤ downG T t base d ∧ downG T t base d ≤ base + d := by
  induction d with
  | zero => simp [downG]
  | succ d ih =>
    unfold downG
    split <;> omega
theorem LS.Ok.hint_bounds {s : LS} (h : s.Ok) (x : Int) : s.i < s.hint x ∧ s.hint x ≤ s.lastI + 1 := by
  have h1 := h.lastI_eq
  unfold LS.hint
  split
  · omega
  · split
    · have := downG_bounds (fun y => (s.term y).getD 0) ((s.term (max x (s.i + 1))).getD 0) (s.i + 1) (max x (s.i + 1) - (s.i + 1)).toNat
      omega
    · omega

set_option maxRecDepth 100000 in
set_option maxHeartbeats 2000000 in
theorem LedgerHints_calls {F : Nat → Prop} (i t : Int) (a : Option Addr) (n c : Nat) (l : List Ent) (x : Int) (w : World) (hi : In64 i) (ht : In64 t) (hl : EsF F w a n c l) (hx : In64 x) :
    Calls Try.prog 5 #[baseV i t a n c, .int .i64 x] w fun e w' => e = .returned (.bool true) ∧ Ext w w' := by
  have HL := hid hl
  have HI := hid hi
  have HT := hid ht
  have HX := hid hx
  clear hl hi ht hx
  go_enter Try.func5, Try.ntmps5
  go_wp2_with fail
  refine (light_any F _ _ _ [l] _ (by exact LLsF.one _ (HL.out.below (ext_alloc _ _)) (by simp))).mono ?_
  rintro e w1 ⟨bb, rfl, hbb, rfl⟩
  have hx1 : Ext w ((w.alloc (.cells #[.int .i64 i, .int .i64 t, .slice a n c] 24)).alloc (.cells #[.slice a n c] 22)) := Ext.trans' (ext_alloc _ _) (ext_alloc _ _)
  have hcb : ((w.alloc (.cells #[.int .i64 i, .int .i64 t, .slice a n c] 24)).alloc (.cells #[.slice a n c] 22)).cell? ⟨w.heap.size, 0, none⟩ = some (.int .i64 i) := by
    rw [(ext_alloc (w.alloc (.cells #[.int .i64 i, .int .i64 t, .slice a n c] 24)) _).cell (by simp)]
    unfold World.cell?; rw [heap_alloc_new]; rfl
  have HBB := hid hbb
  clear hbb
  cases bb with
  | false =>
    go_wp2_with fail
    refine (awake_any _).mono ?_
    rintro e w2 ⟨rfl, hb2⟩
    go_wp2
    go_ret
    exact ⟨rfl, Ext.trans' hx1 hb2⟩
  | true =>
    go_wp2_with fail
    by_cases hok : LS.Ok ⟨i, t, l⟩
    · refine (made_ok i t a n c l _ HI.out HT.out (by exact HL.out.below hx1) hok).mono ?_
      rintro e w2 ⟨b, b', rfl, hled, href, hb1, hb2, hbb, hx2⟩
      have hc2 := (hx2.cell (p := ⟨w.heap.size, 0, none⟩) (by simp; omega)).trans hcb
      have HLED := hid hled
      have HREF := hid href
      have hbd := hok.hint_bounds x
      have hB := hok.bounds
      have hle := hok.last_le
      have hlast := hok.lastI_eq
      clear hled href hb1 hb2 hbb
      have hH := Hint_at HLED.out hok x HX.out
      have hR := fun k => RHint_at (HREF.out.drewN k) hok x HX.out
      have hLt := fun k => Last_at (HLED.out.drewN k)
      dsimp only at hB hle hbd hlast
      generalize LS.hint ⟨i, t, l⟩ x = hh at *
      generalize LS.lastI ⟨i, t, l⟩ = z at *
      have h64 : z ≤ 1099511627776 := by omega
      have h65 : i ≤ z := by omega
      have HH := hid hH
      have HR := hid hR
      have HLT := hid hLt
      clear hH hR hLt hlast hle hok
      go_wp2_with fail
      refine (Calls.mono HH.out) ?_
      rintro e w' ⟨rfl, k, rfl⟩
      go_wp2_with fail
      refine (Calls.mono (HLT.out k)) ?_
      rintro e w' ⟨rfl, k', rfl⟩
      go_wp2_with fail
      refine (Calls.mono (HR.out _)) ?_
      rintro e w3 ⟨rfl, hx3⟩
      have hc3 := (hx3.cell (p := ⟨w.heap.size, 0, none⟩) (World.block_lt_of_cell? w2 _ hc2)).trans hc2
      go_wp2_with fail
      refine (awake_any _).mono ?_
      rintro e w5 ⟨rfl, hb5⟩
      go_wp2
      go_ret
      exact ⟨rfl, Ext.trans' (Ext.trans' hx1 hx2) (Ext.trans' (ext_of_drewN hx3) hb5)⟩
    · refine (made_bad i t a n c l _ HI.out (by exact HL.out.below hx1) hok).mono ?_
      rintro e w2 ⟨rfl, hx2⟩
      go_wp2_with fail
      refine (awake_any _).mono ?_
      rintro e w3 ⟨rfl, hb3⟩
      go_wp2
      go_ret
      exact ⟨rfl, Ext.trans' hx1 (Ext.trans' hx2 hb3)⟩
end Go.Proofs.Ytjcmgkdlkadfmaa
