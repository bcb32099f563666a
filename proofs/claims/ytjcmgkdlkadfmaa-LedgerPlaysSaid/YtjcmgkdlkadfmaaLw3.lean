/- The walks of the ledger's readers: Base, Last, Term, Fresh, Hint. -/
import Derived.Test.YtjcmgkdlkadfmaaLw2
namespace Go.Proofs.Ytjcmgkdlkadfmaa
open Go.RowKit
set_option linter.unusedVariables false
set_option linter.unusedSimpArgs false

/-- A ledger that a call made, in block b; its entries' memory meets F, and is not block b. -/
structure LedAt (F : Nat → Prop) (w : World) (b : Nat) (s : LS) : Prop where
  obj : ∃ a c, w.heap[b]? = some (.cells #[.int .i64 s.i, .int .i64 s.t, .slice a s.l.length c, .bool true] 71 (0, 0)) ∧ EsF F w a s.l.length c s.l
  far : ¬ F b
  i64 : In64 s.i
  t64 : In64 s.t
theorem LedAt.cells {F : Nat → Prop} {w : World} {b : Nat} {s : LS} (h : LedAt F w b s) : ∃ a c, w.cell? ⟨b, 0, none⟩ = some (.int .i64 s.i) ∧ w.cell? ⟨b, 1, none⟩ = some (.int .i64 s.t) ∧
    w.cell? ⟨b, 2, none⟩ = some (.slice a s.l.length c) ∧ w.cell? ⟨b, 3, none⟩ = some (.bool true) ∧ (∀ j, w.frozen? ⟨b, j, none⟩ = false) ∧ EsF F w a s.l.length c s.l ∧ b < w.heap.size := by
  obtain ⟨a, c, h1, h2⟩ := h.obj
  refine ⟨a, c, ?_, ?_, ?_, ?_, fun j => ?_, h2, ?_⟩
  all_goals first | (simp [World.cell?, h1]; done) | (simp [World.frozen?, h1]; done) | skip
  exact (Array.getElem?_eq_some_iff.1 h1).1
theorem LedAt.keep {F G : Nat → Prop} {w w' : World} {b : Nat} {s : LS} (h : LedAt F w b s) (hb : w'.heap[b]? = w.heap[b]?) (hf : ∀ k, F k → k < w.heap.size → G k ∧ w'.heap[k]? = w.heap[k]?) (hg : ¬ G b) : LedAt G w' b s := by
  obtain ⟨a, c, h1, h2⟩ := h.obj
  exact ⟨⟨a, c, hb.trans h1, h2.keep hf⟩, hg, h.i64, h.t64⟩
theorem LedAt.lt {F : Nat → Prop} {w : World} {b : Nat} {s : LS} (h : LedAt F w b s) : b < w.heap.size := by
  obtain ⟨a, c, h1, h2⟩ := h.obj
  exact (Array.getElem?_eq_some_iff.1 h1).1
theorem LedAt.below {F : Nat → Prop} {w w' : World} {b : Nat} {s : LS} (h : LedAt F w b s) (hb : Ext w w') : LedAt F w' b s := h.keep (hb.block b h.lt) (fun k hk hs => ⟨hk, hb.block k hs⟩) h.far
theorem LedAt.only {F : Nat → Prop} {w w' : World} {b g : Nat} {s : LS} (h : LedAt F w b s) (hb : w.grownBy w' (some g)) (hne : b ≠ g) (hg : ¬ F g) : LedAt F w' b s :=
  h.keep (hb.block b h.lt (by intro e; injection e with e; exact hne e)) (fun k hk hs => ⟨hk, hb.block k hs (by intro e; injection e with e; subst e; exact hg hk)⟩) h.far

theorem LedAt.drewN {F : Nat → Prop} {w : World} {b : Nat} {s : LS} (h : LedAt F w b s) (k : Nat) : LedAt F (w.drewN k) b s := h.keep rfl (fun _ hk _ => ⟨hk, rfl⟩) h.far
theorem made_led {F : Nat → Prop} {w : World} {b : Nat} {s : LS} (h : LedAt F w b s) :
    Calls Try.prog 42 #[.pointer (some ⟨b, 0, none⟩)] w fun e w' => e = .returned (.bool true) ∧ w = w' := by
  obtain ⟨a, c, -, -, -, h3, -⟩ := h.cells
  exact made_at w h3

set_option maxHeartbeats 400000 in
theorem Base_at {F : Nat → Prop} {w : World} {b : Nat} {s : LS} (h : LedAt F w b s) :
    Calls Try.prog 40 #[.pointer (some ⟨b, 0, none⟩)] w fun e w' => e = .returned (.tuple #[.int .i64 s.i, .int .i64 s.t]) ∧ ∃ k, w' = w.drewN k := by
  obtain ⟨a, c, h0, h1, -, h3, -, -⟩ := h.cells
  go_enter Try.func40, Try.ntmps40
  go_wp2_with (go_at_call 42; refine (made_at _ h3).mono ?_; rintro e w' ⟨rfl, rfl⟩)
  go_quiet (fail)
  go_wp2
  go_ret2
  exact ⟨rfl, _, rfl⟩

set_option maxHeartbeats 400000 in
theorem Last_at {F : Nat → Prop} {w : World} {b : Nat} {s : LS} (h : LedAt F w b s) :
    Calls Try.prog 19 #[.pointer (some ⟨b, 0, none⟩)] w fun e w' => e = .returned (.tuple #[.int .i64 s.lastI, .int .i64 s.lastT]) ∧ ∃ k, w' = w.drewN k := by
  obtain ⟨a, c, h0, h1, h2, h3, -, hl, -⟩ := h.cells
  have hn := hl.2.2.1.2
  have H := hid h
  clear h
  by_cases hz : s.l = []
  · have hlen : s.l.length = 0 := by rw [hz]; rfl
    have e1 : s.lastI = s.i := by unfold LS.lastI; rw [hz]; rfl
    have e2 : s.lastT = s.t := by unfold LS.lastT; rw [hz]; rfl
    rw [e1, e2]
    rw [hlen] at h2
    clear hlen hz hl e1 e2 hn
    go_enter Try.func19, Try.ntmps19
    go_wp2_with (first | (go_at_call 42; refine (made_at _ h3).mono ?_; rintro e w' ⟨rfl, rfl⟩) | (go_at_call 40; refine (Base_at H.out).mono ?_; rintro e w' ⟨rfl, k, rfl⟩))
    go_ret2
    exact ⟨rfl, _, rfl⟩
  · have hpos : 0 < s.l.length := List.length_pos_iff.2 hz
    obtain ⟨p, o, rfl, -, -, hk, -, -, hc0, hc1, -⟩ := hl.at_ (k := s.l.length - 1) (by omega)
    have e1 : s.lastI = s.l[s.l.length - 1].i := by unfold LS.lastI; rw [List.getLast?_eq_getElem?, List.getElem?_eq_getElem hk]
    have e2 : s.lastT = s.l[s.l.length - 1].t := by unfold LS.lastT; rw [List.getLast?_eq_getElem?, List.getElem?_eq_getElem hk]
    rw [e1, e2]
    clear e1 e2 hz hl
    generalize hx : s.l[s.l.length - 1] = x at *
    clear hx
    go_enter Try.func19, Try.ntmps19
    go_wp2_with (first | (go_at_call 42; refine (made_at _ h3).mono ?_; rintro e w' ⟨rfl, rfl⟩))
    go_quiet (fail)
    go_wp2
    go_ret2
    exact ⟨rfl, _, rfl⟩
end Go.Proofs.Ytjcmgkdlkadfmaa
