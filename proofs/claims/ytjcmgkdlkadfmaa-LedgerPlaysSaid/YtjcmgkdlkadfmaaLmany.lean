/- Merge, the program's and the reference's, of any entries. -/
import Derived.Test.YtjcmgkdlkadfmaaLr7
import Derived.Test.YtjcmgkdlkadfmaaLtwo
namespace Go.Proofs.Ytjcmgkdlkadfmaa
open Go.RowKit
set_option linter.unusedVariables false
set_option linter.unusedSimpArgs false

theorem LS.merge_bad {s : LS} {x t : Int} {more : List Ent} (h : risesS x t more = false ∨ (s.lastI < x ∨ (s.i ≤ x ∧ s.term x ≠ some t))) : s.merge x t more = (0, [], false) := by
  unfold LS.merge
  by_cases hr : risesS x t more = false
  · rw [if_pos hr]
  · rw [if_neg hr]
    rcases h with h | h
    · exact absurd h hr
    · rw [if_pos h]
theorem LS.merge_good {s : LS} {x t : Int} {more : List Ent} (h : ¬ (risesS x t more = false ∨ (s.lastI < x ∨ (s.i ≤ x ∧ s.term x ≠ some t)))) : s.merge x t more = mergeGo s more ∧ risesS x t more = true ∧ ¬ s.lastI < x ∧ (s.i ≤ x → s.term x = some t) := by
  have h1 : ¬ risesS x t more = false := fun e => h (.inl e)
  have h2 : ¬ (s.lastI < x ∨ (s.i ≤ x ∧ s.term x ≠ some t)) := fun e => h (.inr e)
  unfold LS.merge
  rw [if_neg h1, if_neg h2]
  refine ⟨rfl, by simpa using h1, fun e => h2 (.inl e), fun hx => ?_⟩
  by_cases ht : s.term x = some t
  · exact ht
  · exact absurd (.inr ⟨hx, ht⟩) h2

theorem Merge_any {F G : Nat → Prop} {w : World} {b : Nat} {s : LS} (h : LedAt F w b s) (hok : s.Ok) (x t : Int) (hx : In64 x) {a : Option Addr} {n c : Nat} {more : List Ent} (hm : EsF G w a n c more) :
    Calls Try.prog 30 #[.pointer (some ⟨b, 0, none⟩), .int .i64 x, .int .i64 t, .slice a n c] w (MergePost w (s.merge x t more)) := by
  by_cases hr : risesS x t more = false ∨ (s.lastI < x ∨ (s.i ≤ x ∧ s.term x ≠ some t))
  · rw [LS.merge_bad hr]; exact Merge_bad h hok x t hx hm hr
  · obtain ⟨e, h1, h2, h3⟩ := LS.merge_good hr
    rw [e]; exact Merge_ok h hok x t hx hm h1 h2 h3
theorem RMerge_any {F G : Nat → Prop} {w : World} {b : Nat} {s : LS} (h : RefAt F w b s) (hok : s.Ok) (x t : Int) (hx : In64 x) {a : Option Addr} {n c : Nat} {more : List Ent} (hm : EsF G w a n c more) :
    Calls Try.prog 31 #[.pointer (some ⟨b, 0, none⟩), .int .i64 x, .int .i64 t, .slice a n c] w (RMergePost (fun k => G k ∧ k < w.heap.size) w (s.merge x t more)) := by
  by_cases hr : risesS x t more = false ∨ (s.lastI < x ∨ (s.i ≤ x ∧ s.term x ≠ some t))
  · rw [LS.merge_bad hr]; exact RMerge_bad h hok x t hx hm hr
  · obtain ⟨e, h1, h2, h3⟩ := LS.merge_good hr
    rw [e]; exact RMerge_ok h hok x t hx hm h1 h2 h3
end Go.Proofs.Ytjcmgkdlkadfmaa
