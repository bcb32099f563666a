/- The walk of VaultNewer. Printed by gen_vl9.py. -/
import Derived.Test.YtjapeaoebjmpnaaGreatDoorB23
namespace Go.Proofs.YtjapeaoebjmpnaaGreatDoor
open Go.RowKit Go.Maps
set_option linter.unusedVariables false
set_option linter.unusedSimpArgs false
attribute [local go_sem] bmax2 bmin2 bmax_two bmin_two

/-- What a save leads to, at a calm vault with much room. -/
structure CalmV (v : VS) : Prop where
  calm : Calm v 300000
  room : v.d.room = 16777216
  len : v.some = true → v.s.d.length ≤ 70000
theorem CalmV.ok {v : VS} (h : CalmV v) : v.Ok := ⟨h.calm.ok, h.calm.s⟩
theorem CalmV.new : CalmV ⟨sn0, false, DS.new 16777216⟩ := ⟨by
  have := calm_new (room := 16777216) (by decide) (by decide)
  exact ⟨this.ok, this.off, this.left, this.seen, Nat.le_trans this.last (by decide), this.acts, this.s⟩, rfl, fun h => by cases h⟩
theorem file70 {s : Sn} (h : checkS s = 0) (hl : s.d.length ≤ 70000) : (fileB s).length ≤ 80000 := by
  have := fileB_le (checkS_ok h).2.2.2.1
  omega
theorem CalmV.save {v : VS} (h : CalmV v) {s : Sn} (hs : checkS s = 0) (hn : v.some = true → v.s.i < s.i) (hl : s.d.length ≤ 70000) : ∃ d', saveS v s = (0, ⟨s, true, d'⟩) ∧ CalmV ⟨s, true, d'⟩ := by
  have h1 := file70 hs hl
  obtain ⟨d', e1, e2, e3, -⟩ := save_calm h.calm hs hn (by rw [h.room]; omega)
  refine ⟨d', e1, ⟨e2.ok, e2.off, e2.left, e2.seen, Nat.le_trans e2.last ?_, e2.acts, e2.s⟩, e3.trans h.room, fun _ => hl⟩
  split
  · rename_i hv
    have h2 := file70 (h.calm.s hv) (h.len hv)
    omega
  omega
theorem save_bad {v : VS} {s : Sn} (hs : checkS s ≠ 0) : saveS v s = (checkS s, v) := by unfold saveS; rw [if_pos hs]
theorem save_old {v : VS} {s : Sn} (hs : checkS s = 0) (hv : v.some = true) (hi : s.i ≤ v.s.i) : saveS v s = (51, v) := by unfold saveS; rw [if_neg (by rw [hs]; simp), if_pos ⟨hv, hi⟩]
theorem KtAt.v {F : Nat → Prop} {w : World} {b o : Nat} {k : Kt} (h : KtAt F w b o k) : ∃ va vn vc da dn dc, w.cell? ⟨b, o, none⟩ = some (.int .i64 k.op) ∧ w.cell? ⟨b, o + 1, none⟩ = some (.int .i64 k.s.i) ∧ w.cell? ⟨b, o + 2, none⟩ = some (.int .i64 k.s.t) ∧ w.cell? ⟨b, o + 3, none⟩ = some (.slice va vn vc) ∧
    w.cell? ⟨b, o + 4, none⟩ = some (.slice da dn dc) ∧ w.cell? ⟨b, o + 5, none⟩ = some (.int .i64 k.size) ∧ w.cell? ⟨b, o + 6, none⟩ = some (.int .i64 k.n) ∧ w.cell? ⟨b, o + 7, none⟩ = some (.int .i64 k.keep) ∧ w.cell? ⟨b, o + 8, none⟩ = some (.int .i64 k.tear) ∧
    KtV F w (.agg #[.int .i64 k.op, .int .i64 k.s.i, .int .i64 k.s.t, .slice va vn vc, .slice da dn dc, .int .i64 k.size, .int .i64 k.n, .int .i64 k.keep, .int .i64 k.tear]) k := by
  obtain ⟨va, vn, vc, da, dn, dc, h0, h1, h2, h3, h4, h5, h6, h7, h8, ⟨g0, g1, g2, g3, g4, g5, g6⟩, h10, h11⟩ := h
  exact ⟨va, vn, vc, da, dn, dc, h0, h1, h2, h3, h4, h5, h6, h7, h8, va, vn, vc, da, dn, dc, rfl, g0, g1, g2, g3, g4, g5, g6, h10, h11⟩
theorem cells9a {W : World} {b : Nat} {x0 x1 x2 x3 x4 x5 x6 x7 x8 : Value} {t : TypeId} (h : W.heap[b]? = some (.cells #[x0, x1, x2, x3, x4, x5, x6, x7, x8] t (0, 0))) :
    W.cell? ⟨b, 0, none⟩ = some x0 ∧ W.cell? ⟨b, 1, none⟩ = some x1 ∧ W.cell? ⟨b, 2, none⟩ = some x2 ∧ W.cell? ⟨b, 3, none⟩ = some x3 ∧ W.cell? ⟨b, 4, none⟩ = some x4 ∧ W.cell? ⟨b, 5, none⟩ = some x5 ∧ W.cell? ⟨b, 6, none⟩ = some x6 ∧ W.cell? ⟨b, 7, none⟩ = some x7 ∧ W.cell? ⟨b, 8, none⟩ = some x8 := by
  refine ⟨?_, ?_, ?_, ?_, ?_, ?_, ?_, ?_, ?_⟩ <;> simp [World.cell?, h]
theorem snv_form {F : Nat → Prop} {w : World} {x0 x1 x2 x3 : Value} {s : Sn} (h : SnV F w (.agg #[x0, x1, x2, x3]) s) : ∃ va vn vc da dn dc, x0 = .int .i64 s.i ∧ x1 = .int .i64 s.t ∧ x2 = .slice va vn vc ∧ x3 = .slice da dn dc := by
  obtain ⟨va, vn, vc, da, dn, dc, e, -⟩ := h
  injection e with e
  simp only [Array.mk.injEq, List.cons.injEq, and_true] at e
  exact ⟨va, vn, vc, da, dn, dc, e.1, e.2.1, e.2.2.1, e.2.2.2⟩
theorem szN_len (k : Kt) (h : k.s.d.length ≤ 65536) : (snapS k).d.length ≤ 70000 := by
  have := (szN_eq k.size).2
  unfold snapS
  dsimp only
  rw [List.length_append, List.length_replicate]
  omega
/-- The state that was kept last, in memory of its own. -/
def BestAt (M : Nat → Prop) (w : World) (pb : Nat) (s : Sn) : Prop :=
  ∃ va vn vc da dn dc, w.heap[pb]? = some (.cells #[.int .i64 s.i, .int .i64 s.t, .slice va vn vc, .slice da dn dc] 25 (0, 0)) ∧ SnV M w (.agg #[.int .i64 s.i, .int .i64 s.t, .slice va vn vc, .slice da dn dc]) s
theorem BestAt.frm {M E : Nat → Prop} {w w' : World} {pb : Nat} {s : Sn} (h : BestAt M w pb s) (hf : Frm E w w') (h1 : ¬ E pb) (h2 : ∀ q, M q → ¬ E q) : BestAt M w' pb s := by
  obtain ⟨va, vn, vc, da, dn, dc, e1, e2⟩ := h
  exact ⟨va, vn, vc, da, dn, dc, (hf.block pb (Array.getElem?_eq_some_iff.1 e1).1 h1).trans e1, e2.keep fun q hq hl => ⟨hq, hf.block q hl (h2 q hq)⟩⟩

end Go.Proofs.YtjapeaoebjmpnaaGreatDoor
