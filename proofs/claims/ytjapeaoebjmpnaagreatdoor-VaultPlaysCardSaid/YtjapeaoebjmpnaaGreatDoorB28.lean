/- The walk of VaultWhole. Printed by gen_vh3.py. -/
import Derived.Test.YtjapeaoebjmpnaaGreatDoorB27
import Derived.Test.YtjapeaoebjmpnaaGreatDoorB26
namespace Go.Proofs.YtjapeaoebjmpnaaGreatDoor
open Go.RowKit Go.Maps
set_option linter.unusedVariables false
set_option linter.unusedSimpArgs false
attribute [local go_sem] bmax2 bmin2 bmax_two bmin_two

theorem Arm_at {D : Nat → Prop} {w : World} {g : Nat} {s : DS} (h : DiskAt D w g s) (n keep tear : Int) (hn : In64 n) :
    Calls Tryz.prog 21 #[.pointer (some ⟨g, 0, none⟩), .int .i64 n, .int .i64 keep, .int .i64 tear] w (DoPost D g (s.arm n keep tear) w) := by
  obtain ⟨ms, ml, av, H, h⟩ := h
  exact Arm_in h n keep tear hn

/-! ### an act ahead of others -/
theorem KtAt.cells {F : Nat → Prop} {w : World} {b o : Nat} {k : Kt} (h : KtAt F w b o k) : ∀ j, j < 9 → ∃ u, w.cell? ⟨b, o + j, none⟩ = some u ∧ u.oneCell' = true := by
  obtain ⟨va, vn, vc, da, dn, dc, h0, h1, h2, h3, h4, h5, h6, h7, h8, -⟩ := h
  intro j hj
  match j, hj with
  | 0, _ => exact ⟨_, h0, rfl⟩
  | 1, _ => exact ⟨_, h1, rfl⟩
  | 2, _ => exact ⟨_, h2, rfl⟩
  | 3, _ => exact ⟨_, h3, rfl⟩
  | 4, _ => exact ⟨_, h4, rfl⟩
  | 5, _ => exact ⟨_, h5, rfl⟩
  | 6, _ => exact ⟨_, h6, rfl⟩
  | 7, _ => exact ⟨_, h7, rfl⟩
  | 8, _ => exact ⟨_, h8, rfl⟩
  | m + 9, h => omega
/-! ### what the law's calls lead to -/
theorem saveS_ok {v : VS} (h : v.d.Ok) (s : Sn) : (saveS v s).2.d.Ok := by
  have hl := layS_ok (partsB s) 0 h
  have h3 := threeS_ok (nameB s.i) hl
  unfold saveS
  split
  · exact h
  split
  · exact h
  split
  · show DS.Ok (if _ then _ else _)
    split
    · exact (hl.drop _).sync
    exact hl
  split
  · exact h3
  split
  · exact h3.drop _
  exact h3
/-- Saves at a calm vault, whatever they answer. -/
theorem CalmV.any {v : VS} (h : CalmV v) (h0 : v.some = false → v.s = sn0) {s : Sn} (hl : s.d.length ≤ 70000) : CalmV (saveS v s).2 ∧ ((saveS v s).2.some = false → (saveS v s).2.s = sn0) := by
  by_cases h1 : checkS s = 0
  · by_cases h2 : v.some = true ∧ s.i ≤ v.s.i
    · rw [save_old h1 h2.1 h2.2]; exact ⟨h, h0⟩
    obtain ⟨d', e, hc⟩ := h.save h1 (fun e => by
      rcases Int.lt_or_le v.s.i s.i with h3 | h3
      · exact h3
      exact absurd ⟨e, h3⟩ h2) hl
    rw [e]
    exact ⟨hc, fun e => by cases e⟩
  rw [save_bad h1]; exact ⟨h, h0⟩
/-- The disk does something; the vault's memory is as it was. -/
theorem VaAt.does {A : Nat → Prop} {w0 w : World} {g dg : Nat} {v : VS} (h : VaAt A w g dg v) (hx : Ext w0 w) (hA : ∀ q, A q → w0.heap.size ≤ q) :
    ∃ D, DiskAt D w dg v.d ∧ ∀ r e w', DoPost D dg r w e w' → e = .returned (.int .i64 r.1) ∧ Ext w0 w' ∧ VaAt (grow A w w') w' g dg ⟨v.s, v.some, r.2⟩ ∧ (∀ q, grow A w w' q → w0.heap.size ≤ q) ∧ Frm A w w' := by
  obtain ⟨D, G, h1, h2, h3, h4, h5, h6⟩ := h
  refine ⟨D, h1, fun r e w' hp => ?_⟩
  obtain ⟨k1, k2, k3⟩ := hp
  obtain ⟨m1, m2⟩ := VaAt.disk h2 h3 h4 h5 h6 h1.lt (Frm.refl A w) k2 k3
  refine ⟨k1, ext_frm hx k3 (fun q hq => hA q (h3 q hq).1), m1, fun q hq => ?_, m2⟩
  rcases hq with hq | hq
  · exact hA q hq
  have := hx.size; omega
/-- A state in memory that no call writes. -/
structure Was (M A : Nat → Prop) (w : World) (pb : Nat) (s : Sn) : Prop where
  best : BestAt M w pb s
  hp : ¬ A pb
  hm : ∀ q, M q → ¬ A q
  lp : pb < w.heap.size
  lm : ∀ q, M q → q < w.heap.size
theorem Was.step {M A A' : Nat → Prop} {w w' : World} {pb : Nat} {s : Sn} (h : Was M A w pb s) (hf : Frm A w w') (hA : ∀ q, A' q → A q ∨ w.heap.size ≤ q) : Was M A' w' pb s :=
  ⟨h.best.frm hf h.hp h.hm, fun hq => by
    rcases hA pb hq with h1 | h1
    · exact h.hp h1
    · have := h.lp; omega, fun q hq h1 => by
    rcases hA q h1 with h1 | h1
    · exact h.hm q hq h1
    have := h.lm q hq; omega, Nat.lt_of_lt_of_le h.lp hf.size, fun q hq => Nat.lt_of_lt_of_le (h.lm q hq) hf.size⟩
theorem Was.below {M A : Nat → Prop} {w w' : World} {pb : Nat} {s : Sn} (h : Was M A w pb s) (hx : Ext w w') : Was M A w' pb s := h.step (Frm.of_ext hx A) fun q hq => .inl hq
theorem Was.grow {M A : Nat → Prop} {w w' : World} {pb : Nat} {s : Sn} (h : Was M A w pb s) (hf : Frm A w w') : Was M (grow A w w') w' pb s := h.step hf fun q hq => by
  rcases hq with hq | hq
  · exact .inl hq
  exact .inr hq.1
theorem Was.less {M A D : Nat → Prop} {w : World} {pb : Nat} {s : Sn} (h : Was M A w pb s) (hD : ∀ q, D q → A q) : Was M D w pb s := h.step (Frm.refl A w) fun q hq => .inl (hD q hq)
def qN (z : Int) : Int := (IntKind.u64.wrap z).tmod 12
end Go.Proofs.YtjapeaoebjmpnaaGreatDoor
