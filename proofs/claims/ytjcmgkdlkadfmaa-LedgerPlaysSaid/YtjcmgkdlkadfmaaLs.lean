/- What the ledger's functions compute, in plain Lean. -/
import Derived.Test.YtjcmgkdlkadfmaaLa
namespace Go.Proofs.Ytjcmgkdlkadfmaa
open Go.RowKit
set_option linter.unusedVariables false
set_option linter.unusedSimpArgs false

def goodS (i t : Int) : Bool := decide (0 ≤ i) && decide (i ≤ 1099511627776) && decide (0 ≤ t) && decide (t ≤ 1099511627776) && ((i == 0) == (t == 0))

def fitsS (i t : Int) (e : Ent) : Bool :=
  (e.i == wrap64 (i + 1)) && decide (e.i ≤ 1099511627776) && decide (max t 1 ≤ e.t) && decide (e.t ≤ 1099511627776) && decide (e.d.length ≤ 4096)

def risesS : Int → Int → List Ent → Bool
  | _, _, [] => true
  | i, t, e :: l => fitsS i t e && risesS e.i e.t l

theorem risesS_drop (i t : Int) (l : List Ent) (k : Nat) (hk : k < l.length) :
    risesS i t (l.drop k) = (fitsS i t l[k] && risesS l[k].i l[k].t (l.drop (k + 1))) := by
  rw [List.drop_eq_getElem_cons hk]; rfl

/-- What a ledger has. -/
structure LS where
  i : Int
  t : Int
  l : List Ent

def LS.lastI (s : LS) : Int := match s.l.getLast? with | some e => e.i | none => s.i
def LS.lastT (s : LS) : Int := match s.l.getLast? with | some e => e.t | none => s.t


/-- What every ledger meets. -/
def LS.Ok (s : LS) : Prop := goodS s.i s.t = true ∧ risesS s.i s.t s.l = true

theorem goodS_iff (i t : Int) : goodS i t = true ↔ 0 ≤ i ∧ i ≤ 1099511627776 ∧ 0 ≤ t ∧ t ≤ 1099511627776 ∧ (i = 0 ↔ t = 0) := by
  unfold goodS
  simp only [Bool.and_eq_true, decide_eq_true_eq, beq_iff_eq]
  constructor
  · rintro ⟨⟨⟨⟨h1, h2⟩, h3⟩, h4⟩, h5⟩
    refine ⟨h1, h2, h3, h4, ?_⟩
    rw [Bool.eq_iff_iff] at h5
    simpa using h5
  · rintro ⟨h1, h2, h3, h4, h5⟩
    exact ⟨⟨⟨⟨h1, h2⟩, h3⟩, h4⟩, by rw [Bool.eq_iff_iff]; simpa using h5⟩
theorem fitsS_iff (i t : Int) (e : Ent) : fitsS i t e = true ↔ e.i = wrap64 (i + 1) ∧ e.i ≤ 1099511627776 ∧ t ≤ e.t ∧ 1 ≤ e.t ∧ e.t ≤ 1099511627776 ∧ e.d.length ≤ 4096 := by
  unfold fitsS
  simp only [Bool.and_eq_true, decide_eq_true_eq, beq_iff_eq]
  omega

/-- The entries go on one by one. -/
theorem rises_at : ∀ (l : List Ent) (i t : Int), -1099511627776 ≤ i → i ≤ 1099511627776 → risesS i t l = true → ∀ k, (h : k < l.length) →
    l[k].i = i + 1 + k ∧ l[k].i ≤ 1099511627776 ∧ 1 ≤ l[k].t ∧ l[k].t ≤ 1099511627776 ∧ t ≤ l[k].t ∧ l[k].d.length ≤ 4096 := by
  intro l
  induction l with
  | nil => intro i t _ _ _ k h; simp at h
  | cons e l ih =>
    intro i t hi0 hi h k hk
    simp only [risesS, Bool.and_eq_true] at h
    obtain ⟨h1, h2⟩ := h
    rw [fitsS_iff] at h1
    obtain ⟨e1, e2, e3, e4, e5, e6⟩ := h1
    have hw : wrap64 (i + 1) = i + 1 := by unfold wrap64; omega
    rw [hw] at e1
    cases k with
    | zero => simp; omega
    | succ k =>
      have := ih e.i e.t (by omega) (by omega) h2 k (by simpa using hk)
      simp only [List.getElem_cons_succ]
      omega
theorem rises_mono : ∀ (l : List Ent) (i t : Int), risesS i t l = true → ∀ j k, (hj : j < l.length) → (hk : k < l.length) → j ≤ k → l[j].t ≤ l[k].t := by
  intro l
  induction l with
  | nil => intro i t _ j k h; simp at h
  | cons e l ih =>
    intro i t h j k hj hk hjk
    simp only [risesS, Bool.and_eq_true] at h
    obtain ⟨h1, h2⟩ := h
    cases j with
    | zero =>
      cases k with
      | zero => simp
      | succ k =>
        have hkl : k < l.length := by simpa using hk
        have h0 : l[0].t ≤ l[k].t := ih e.i e.t h2 0 k (by omega) hkl (by omega)
        have h3 : fitsS e.i e.t l[0] = true := by
          cases l with
          | nil => simp at hkl
          | cons e' l => simp only [risesS, Bool.and_eq_true] at h2; exact h2.1
        rw [fitsS_iff] at h3
        simp only [List.getElem_cons_zero, List.getElem_cons_succ]
        omega
    | succ j =>
      cases k with
      | zero => omega
      | succ k => simp only [List.getElem_cons_succ]; exact ih e.i e.t h2 j k (by simpa using hj) (by simpa using hk) (by omega)

theorem LS.Ok.bounds {s : LS} (h : s.Ok) : 0 ≤ s.i ∧ s.i ≤ 1099511627776 ∧ 0 ≤ s.t ∧ s.t ≤ 1099511627776 := by
  have := (goodS_iff _ _).1 h.1
  omega
theorem LS.Ok.at_ {s : LS} (h : s.Ok) {k : Nat} (hk : k < s.l.length) : s.l[k].i = s.i + 1 + k ∧ s.l[k].i ≤ 1099511627776 ∧ 1 ≤ s.l[k].t ∧ s.l[k].t ≤ 1099511627776 ∧ s.t ≤ s.l[k].t ∧ s.l[k].d.length ≤ 4096 :=
  rises_at s.l s.i s.t (by have := h.bounds; omega) h.bounds.2.1 h.2 k hk
theorem LS.Ok.lastI_eq {s : LS} (h : s.Ok) : s.lastI = s.i + s.l.length := by
  unfold LS.lastI
  rw [List.getLast?_eq_getElem?]
  by_cases hz : s.l.length = 0
  · rw [List.getElem?_eq_none (by omega)]; simp; omega
  · rw [List.getElem?_eq_getElem (by omega)]
    have := (h.at_ (k := s.l.length - 1) (by omega)).1
    simp only
    omega
theorem LS.Ok.last_le {s : LS} (h : s.Ok) : s.i + s.l.length ≤ 1099511627776 := by
  by_cases hz : s.l.length = 0
  · have := h.bounds; omega
  · have := h.at_ (k := s.l.length - 1) (by omega)
    omega
theorem LS.Ok.lastT_le {s : LS} (h : s.Ok) : 0 ≤ s.lastT ∧ s.lastT ≤ 1099511627776 := by
  unfold LS.lastT
  rw [List.getLast?_eq_getElem?]
  by_cases hz : s.l.length = 0
  · rw [List.getElem?_eq_none (by omega)]; have := h.bounds; simp; omega
  · rw [List.getElem?_eq_getElem (by omega)]
    have := h.at_ (k := s.l.length - 1) (by omega)
    simp only
    omega

/-- The term of an index. -/
def LS.term (s : LS) (x : Int) : Option Int := if x < s.i then none else if x = s.i then some s.t else (s.l[(x - s.i - 1).toNat]?).map Ent.t
end Go.Proofs.Ytjcmgkdlkadfmaa
