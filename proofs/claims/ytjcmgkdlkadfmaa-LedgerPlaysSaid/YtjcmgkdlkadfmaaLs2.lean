/- What Fresh, Hint and their kin compute, in plain Lean. -/
import Derived.Test.YtjcmgkdlkadfmaaLs
namespace Go.Proofs.Ytjcmgkdlkadfmaa
open Go.RowKit
set_option linter.unusedVariables false
set_option linter.unusedSimpArgs false

def LS.fresh (s : LS) (x t : Int) : Bool := decide (s.lastT < t) || ((t == s.lastT) && decide (s.lastI ≤ x))

/-- Down to the first index of a term. -/
def downG (T : Int → Int) (t base : Int) : Nat → Int
  | 0 => base
  | k + 1 => if T (base + k) = t then downG T t base k else base + (k + 1)
def LS.hint (s : LS) (x : Int) : Int :=
  if s.lastI < x then s.lastI + 1 else
    if (s.term (max x (s.i + 1))).isSome then downG (fun y => (s.term y).getD 0) ((s.term (max x (s.i + 1))).getD 0) (s.i + 1) (max x (s.i + 1) - (s.i + 1)).toNat else max x (s.i + 1)
theorem LS.term_64 {s : LS} (h : s.Ok) (x : Int) : In64 ((s.term x).getD 0) := by
  unfold LS.term
  have := h.bounds
  split
  · simp [In64]
  · split
    · simp [In64]; omega
    · generalize (x - s.i - 1).toNat = q
      by_cases hk : q < s.l.length
      · rw [List.getElem?_eq_getElem hk]
        have := h.at_ hk
        simp [In64]; omega
      · rw [List.getElem?_eq_none (by omega)]; simp [In64]

theorem rises_ix : ∀ (l : List Ent) (i t : Int), -9223372036854775808 ≤ i → i ≤ 1099511627776 → risesS i t l = true → ∀ k, (h : k < l.length) →
    l[k].i = i + 1 + k ∧ l[k].i ≤ 1099511627776 ∧ 1 ≤ l[k].t ∧ l[k].t ≤ 1099511627776 := by
  intro l
  induction l with
  | nil => intro i t _ _ _ k h; simp at h
  | cons e l ih =>
    intro i t hi0 hi h k hk
    simp only [risesS, Bool.and_eq_true] at h
    obtain ⟨h1, h2⟩ := h
    rw [fitsS_iff] at h1
    obtain ⟨e1, e2, e3, e4, e5, e6⟩ := h1
    have hw : wrap64 (i + 1) = i + 1 := by unfold wrap64; omega
    rw [hw] at e1
    cases k with
    | zero => simp; omega
    | succ k =>
      have := ih e.i e.t (by omega) (by omega) h2 k (by simpa using hk)
      simp only [List.getElem_cons_succ]
      omega

def mergeGo (s : LS) : List Ent → Int × List Ent × Bool
  | [] => (0, [], true)
  | e :: l => if e.i ≤ s.i ∨ s.term e.i = some e.t then mergeGo s l else
      if e.t < (s.term (e.i - 1)).getD 0 then (0, [], false) else if (s.term e.i).isSome then (e.i, e :: l, true) else (0, e :: l, true)
def LS.merge (s : LS) (x t : Int) (more : List Ent) : Int × List Ent × Bool :=
  if risesS x t more = false then (0, [], false) else if s.lastI < x ∨ (s.i ≤ x ∧ s.term x ≠ some t) then (0, [], false) else mergeGo s more
theorem mergeGo_drop (s : LS) (l : List Ent) (k : Nat) (hk : k < l.length) :
    mergeGo s (l.drop k) = if l[k].i ≤ s.i ∨ s.term l[k].i = some l[k].t then mergeGo s (l.drop (k + 1)) else
      if l[k].t < (s.term (l[k].i - 1)).getD 0 then (0, [], false) else if (s.term l[k].i).isSome then (l[k].i, l.drop k, true) else (0, l.drop k, true) := by
  rw [List.drop_eq_getElem_cons hk]; rfl
end Go.Proofs.Ytjcmgkdlkadfmaa
