/- What a merge leads to, in plain Lean. -/
import Derived.Test.YtjcmgkdlkadfmaaLr1
namespace Go.Proofs.Ytjcmgkdlkadfmaa
open Go.RowKit
set_option linter.unusedVariables false
set_option linter.unusedSimpArgs false

theorem LS.lastI_cons (i t : Int) (e : Ent) (l : List Ent) : LS.lastI ⟨i, t, e :: l⟩ = LS.lastI ⟨e.i, e.t, l⟩ := by
  unfold LS.lastI
  cases l with
  | nil => rfl
  | cons e' l => rw [List.getLast?_cons_cons, List.getLast?_cons]
theorem LS.lastT_cons (i t : Int) (e : Ent) (l : List Ent) : LS.lastT ⟨i, t, e :: l⟩ = LS.lastT ⟨e.i, e.t, l⟩ := by
  unfold LS.lastT
  cases l with
  | nil => rfl
  | cons e' l => rw [List.getLast?_cons_cons, List.getLast?_cons]
theorem risesS_append : ∀ (l m : List Ent) (i t : Int), risesS i t (l ++ m) = (risesS i t l && risesS (LS.lastI ⟨i, t, l⟩) (LS.lastT ⟨i, t, l⟩) m) := by
  intro l
  induction l with
  | nil => intro m i t; simp [risesS, LS.lastI, LS.lastT]
  | cons e l ih => intro m i t; rw [LS.lastI_cons, LS.lastT_cons]; simp only [List.cons_append, risesS]; rw [ih, Bool.and_assoc]
theorem rises_take_drop (l : List Ent) (i t : Int) (k : Nat) (h : risesS i t l = true) : risesS i t (l.take k) = true ∧ risesS (LS.lastI ⟨i, t, l.take k⟩) (LS.lastT ⟨i, t, l.take k⟩) (l.drop k) = true := by
  have := risesS_append (l.take k) (l.drop k) i t
  rw [List.take_append_drop, h] at this
  simpa using this.symm
theorem LS.Ok.cut {s : LS} (h : s.Ok) (k : Nat) : LS.Ok ⟨s.i, s.t, s.l.take k⟩ := ⟨h.1, (rises_take_drop s.l s.i s.t k h.2).1⟩
theorem LS.Ok.add {s : LS} (h : s.Ok) {m : List Ent} (hr : risesS s.lastI s.lastT m = true) : LS.Ok ⟨s.i, s.t, s.l ++ m⟩ := ⟨h.1, by
  have e := risesS_append s.l m s.i s.t
  have h2 := h.2
  have : risesS (LS.lastI ⟨s.i, s.t, s.l⟩) (LS.lastT ⟨s.i, s.t, s.l⟩) m = true := hr
  show risesS s.i s.t (s.l ++ m) = true
  rw [e, h2, this]; rfl⟩
theorem LS.term_hi {s : LS} {y : Int} (h : s.i < y) : s.term y = (s.l[(y - s.i - 1).toNat]?).map Ent.t := by
  unfold LS.term; rw [if_neg (by omega), if_neg (by omega)]
theorem LS.Ok.term_last {s : LS} (h : s.Ok) : s.term s.lastI = some s.lastT := by
  have e := h.lastI_eq
  by_cases hz : s.l.length = 0
  · have : s.l = [] := List.eq_nil_of_length_eq_zero hz
    have e1 : s.lastI = s.i := by omega
    have e2 : s.lastT = s.t := by unfold LS.lastT; rw [this]; rfl
    rw [e1, e2, LS.term_base]
  · rw [LS.term_hi (by omega)]
    have : (s.lastI - s.i - 1).toNat = s.l.length - 1 := by omega
    rw [this, ← List.getLast?_eq_getElem?]
    unfold LS.lastT
    cases hc : s.l.getLast? with
    | none => rw [List.getLast?_eq_none_iff] at hc; rw [hc] at hz; simp at hz
    | some e => rfl
theorem LS.term_some {s : LS} {y t : Int} (h : s.term y = some t) : s.i ≤ y ∧ y ≤ s.i + s.l.length := by
  unfold LS.term at h
  by_cases h1 : y < s.i
  · rw [if_pos h1] at h; cases h
  · rw [if_neg h1] at h
    by_cases h2 : y = s.i
    · omega
    · rw [if_neg h2] at h
      by_cases h3 : (y - s.i - 1).toNat < s.l.length
      · omega
      · rw [List.getElem?_eq_none (by omega)] at h; cases h
theorem LS.term_is {s : LS} {y : Int} (h : s.i ≤ y) (h2 : y ≤ s.i + s.l.length) : ∃ t, s.term y = some t := by
  by_cases he : y = s.i
  · exact ⟨_, by rw [he]; exact s.term_base⟩
  · rw [LS.term_hi (by omega), List.getElem?_eq_getElem (by omega)]; exact ⟨_, rfl⟩
/-- Cut and other entries behind: the terms ahead of the cut stay. -/
theorem LS.term_cut (s : LS) (j : Nat) (m : List Ent) (hj : j ≤ s.l.length) {y : Int} (h : y ≤ s.i + j) : LS.term ⟨s.i, s.t, s.l.take j ++ m⟩ y = s.term y := by
  unfold LS.term
  dsimp only
  by_cases h1 : y < s.i
  · rw [if_pos h1, if_pos h1]
  · rw [if_neg h1, if_neg h1]
    by_cases h2 : y = s.i
    · rw [if_pos h2, if_pos h2]
    · rw [if_neg h2, if_neg h2, List.getElem?_append_left (by simp; omega), List.getElem?_take_of_lt (by omega)]
theorem LS.term_behind (s : LS) (j : Nat) (m : List Ent) (hj : j ≤ s.l.length) {q : Nat} (hq : q < m.length) : LS.term ⟨s.i, s.t, s.l.take j ++ m⟩ (s.i + 1 + j + q) = some m[q].t := by
  have hlen : (s.l.take j).length = j := by simp; omega
  rw [LS.term_hi (by dsimp only; omega)]
  dsimp only
  rw [List.getElem?_append_right (by omega)]
  have : (s.i + 1 + j + q - s.i - 1 : Int).toNat - (s.l.take j).length = q := by omega
  rw [this, List.getElem?_eq_getElem hq]
  rfl

/-- Nothing new. -/
def LS.skip (s : LS) (e : Ent) : Prop := e.i ≤ s.i ∨ s.term e.i = some e.t
theorem mergeGo_skip (s : LS) : ∀ l : List Ent, (∀ e, e ∈ l → s.skip e) → mergeGo s l = (0, [], true) := by
  intro l
  induction l with
  | nil => intro _; rfl
  | cons e l ih =>
    intro h
    unfold mergeGo
    rw [if_pos (show e.i ≤ s.i ∨ s.term e.i = some e.t from h e (by simp))]
    exact ih fun e' he => h e' (by simp [he])
theorem mergeGo_cases (s : LS) : ∀ l : List Ent, (mergeGo s l = (0, [], true) ∧ ∀ e, e ∈ l → s.skip e) ∨ mergeGo s l = (0, [], false) ∨
    ∃ k, ∃ hk : k < l.length, (∀ m, (hm : m < k) → s.skip (l[m]'(by omega))) ∧ ¬ s.skip l[k] ∧ ¬ l[k].t < (s.term (l[k].i - 1)).getD 0 ∧
      mergeGo s l = (if (s.term l[k].i).isSome then l[k].i else 0, l.drop k, true) := by
  intro l
  induction l with
  | nil => exact .inl ⟨rfl, fun e he => by cases he⟩
  | cons e l ih =>
    by_cases hs : s.skip e
    · have he : mergeGo s (e :: l) = mergeGo s l := by conv => lhs; unfold mergeGo; rw [if_pos (show e.i ≤ s.i ∨ s.term e.i = some e.t from hs)]
      rw [he]
      rcases ih with ⟨h1, h2⟩ | h1 | ⟨k, hk, h1, h2, h3, h4⟩
      · exact .inl ⟨h1, fun e' he' => by rcases List.mem_cons.1 he' with rfl | h; exact hs; exact h2 e' h⟩
      · exact .inr (.inl h1)
      · refine .inr (.inr ⟨k + 1, by simpa using hk, fun m hm => ?_, h2, h3, h4⟩)
        cases m with
        | zero => exact hs
        | succ m => exact h1 m (by omega)
    · have he : mergeGo s (e :: l) = if e.t < (s.term (e.i - 1)).getD 0 then (0, [], false) else if (s.term e.i).isSome then (e.i, e :: l, true) else (0, e :: l, true) := by
        conv => lhs; unfold mergeGo; rw [if_neg (show ¬ (e.i ≤ s.i ∨ s.term e.i = some e.t) from hs)]
      rw [he]
      by_cases ht : e.t < (s.term (e.i - 1)).getD 0
      · rw [if_pos ht]; exact .inr (.inl rfl)
      · rw [if_neg ht]
        refine .inr (.inr ⟨0, by simp, (fun m hm => by omega), hs, ht, ?_⟩)
        show _ = (if (s.term e.i).isSome then e.i else 0, e :: l, true)
        by_cases ho : (s.term e.i).isSome
        · rw [if_pos ho, if_pos ho]
        · rw [if_neg ho, if_neg ho]

/-- What the first that is new leads to. -/
theorem merged {s : LS} (hok : s.Ok) {x t : Int} {l : List Ent} (hx0 : -9223372036854775808 ≤ x) (hr : risesS x t l = true) (hlast : ¬ s.lastI < x) (hp : s.i ≤ x → s.term x = some t)
    {k : Nat} (hk : k < l.length) (h1 : ∀ m, (hm : m < k) → s.skip (l[m]'(by omega))) (h2 : ¬ s.skip l[k]) (h3 : ¬ l[k].t < (s.term (l[k].i - 1)).getD 0) :
    ∃ j : Nat, j ≤ s.l.length ∧ l[k].i = s.i + 1 + j ∧ ((s.term l[k].i).isSome = true → j < s.l.length) ∧ ((s.term l[k].i).isSome = false → j = s.l.length) ∧
      risesS (LS.lastI ⟨s.i, s.t, s.l.take j⟩) (LS.lastT ⟨s.i, s.t, s.l.take j⟩) (l.drop k) = true ∧
      (∀ e, e ∈ l → LS.skip ⟨s.i, s.t, s.l.take j ++ l.drop k⟩ e) ∧ LS.merge ⟨s.i, s.t, s.l.take j ++ l.drop k⟩ x t l = (0, [], true) := by
  have hB := hok.bounds
  have hL := hok.lastI_eq
  have hle := hok.last_le
  have hix := rises_ix l x t hx0 (by omega) hr
  have hgt : s.i < l[k].i := by
    by_cases h : l[k].i ≤ s.i
    · exact absurd (.inl h) h2
    · omega
  have hk0 := hix k hk
  have hup : l[k].i ≤ s.i + s.l.length + 1 := by
    by_cases hz : k = 0
    · subst hz; omega
    · have hm := h1 (k - 1) (by omega)
      have hkm := hix (k - 1) (by omega)
      rcases hm with hm | hm
      · omega
      · have := LS.term_some hm; omega
  obtain ⟨j, hj⟩ : ∃ j : Nat, l[k].i = s.i + 1 + j := ⟨(l[k].i - s.i - 1).toNat, by omega⟩
  have hjl : j ≤ s.l.length := by omega
  have hcut := hok.cut j
  have hlen : (s.l.take j).length = j := by simp; omega
  have hlc := hcut.lastI_eq
  dsimp only at hlc
  rw [hlen] at hlc
  have htl := hcut.term_last
  rw [hlc] at htl
  have htc := LS.term_cut s j [] hjl (y := s.i + j) (by omega)
  rw [List.append_nil, htl] at htc
  have hprev : l[k].i - 1 = s.i + j := by omega
  rw [hprev, ← htc] at h3
  simp only [Option.getD_some] at h3
  have hrest : fitsS (LS.lastI ⟨x, t, l.take k⟩) (LS.lastT ⟨x, t, l.take k⟩) l[k] = true ∧ risesS l[k].i l[k].t (l.drop (k + 1)) = true := by
    have := (rises_take_drop l x t k hr).2
    rw [risesS_drop _ _ _ _ hk] at this
    simpa using this
  have hsk : ∀ e, e ∈ l → LS.skip ⟨s.i, s.t, s.l.take j ++ l.drop k⟩ e := by
    intro e he
    obtain ⟨m, hm, rfl⟩ := List.getElem_of_mem he
    have hxm := hix m hm
    by_cases hmk : m < k
    · rcases h1 m hmk with h | h
      · exact .inl h
      · refine .inr ?_
        rw [LS.term_cut s j _ hjl (by omega)]
        exact h
    · refine .inr ?_
      have e1 : l[m].i = s.i + 1 + j + (m - k : Nat) := by omega
      rw [e1, LS.term_behind s j (l.drop k) hjl (q := m - k) (by simp; omega)]
      rw [List.getElem_drop]
      have e2 : k + (m - k) = m := by omega
      simp only [e2]
  have hadd : risesS (LS.lastI ⟨s.i, s.t, s.l.take j⟩) (LS.lastT ⟨s.i, s.t, s.l.take j⟩) (l.drop k) = true := by
    rw [risesS_drop _ _ _ _ hk, hrest.2, hlc]
    have hf := (fitsS_iff _ _ _).1 hrest.1
    have hw : wrap64 (s.i + j + 1) = s.i + j + 1 := by unfold wrap64; omega
    have : fitsS (s.i + j) (LS.lastT ⟨s.i, s.t, s.l.take j⟩) l[k] = true := by
      rw [fitsS_iff, hw]
      omega
    rw [this]; rfl
  refine ⟨j, hjl, hj, fun ho => ?_, fun ho => ?_, hadd, hsk, ?_⟩
  · obtain ⟨u, hu⟩ := Option.isSome_iff_exists.1 ho
    have := LS.term_some hu
    omega
  · by_cases hlt : j = s.l.length
    · exact hlt
    · obtain ⟨u, hu⟩ := LS.term_is (s := s) (y := l[k].i) (by omega) (by omega)
      rw [hu] at ho; cases ho
  · have hok' : LS.Ok ⟨s.i, s.t, s.l.take j ++ l.drop k⟩ := hcut.add hadd
    have hl' := hok'.lastI_eq
    unfold LS.merge
    rw [if_neg (by rw [hr]; simp), if_neg, mergeGo_skip _ _ hsk]
    rintro (h | ⟨h, h'⟩)
    · rw [hl'] at h
      simp at h
      omega
    · dsimp only at h h'
      apply h'
      rw [LS.term_cut s j _ hjl (by omega)]
      exact hp h
end Go.Proofs.Ytjcmgkdlkadfmaa
