/- What a rebase keeps: plain; the walk of a view's Last. -/
import Derived.Test.YtikjckdoldiddaaGreatDoorCWl4b
namespace Go.Proofs.YtikjckdoldiddaaGreatDoor
open Go.RowKit Go.Maps
set_option linter.unusedVariables false
set_option linter.unusedSimpArgs false
attribute [local go_sem] bmax2 bmin2 bmax_two bmin_two

theorem adds_idx : ∀ (l : List Ent) (v n : Wv), v.adds l = some n → ∀ k, (h : k < l.length) → l[k].i = v.last + ((k : Nat) : Int) + 1 := by
  intro l
  induction l with
  | nil => intro v n _ k h; cases h
  | cons e r ih =>
    intro v n h k hk
    unfold Wv.adds at h
    by_cases hg : v.good e = true
    · rw [if_pos hg] at h
      cases k with
      | zero => have := (good_iff hg).1; simp only [List.getElem_cons_zero]; omega
      | succ k =>
        have h1 := ih _ _ h k (by simpa using hk)
        simp only [List.getElem_cons_succ]
        rw [h1]
        unfold Wv.last
        rw [List.length_append, List.length_singleton]
        dsimp only
        omega
    rw [if_neg hg] at h; cases h
theorem Wv.Sound.idx {v : Wv} (h : v.Sound) : ∀ k, (hk : k < v.l.length) → v.l[k].i = v.i + ((k : Nat) : Int) + 1 := fun k hk => by
  have := adds_idx _ _ _ h.l k hk
  unfold Wv.last at this
  simp only [List.length_nil] at this
  omega
/-- What the law looks for in a view. -/
def Wv.fits (v : Wv) (n t : Int) : Prop := (n = v.i ∧ t = v.t) ∨ ∃ x ∈ v.l, x.i = n ∧ x.t = t
theorem Wv.Sound.fits_iff {v : Wv} (h : v.Sound) {n t : Int} (hn : v.i ≤ n) : v.fits n t ↔ (v.at_ n = t ∧ n ≤ v.last) := by
  have hidx := h.idx
  unfold Wv.fits Wv.at_
  constructor
  · rintro (⟨rfl, rfl⟩ | ⟨x, hx, rfl, rfl⟩)
    · rw [if_pos rfl]; exact ⟨rfl, by unfold Wv.last; omega⟩
    obtain ⟨k, hk, rfl⟩ := List.getElem_of_mem hx
    have h1 := hidx k hk
    have h2 : v.l[k].i ≤ v.last := by unfold Wv.last; omega
    rw [if_neg (by omega), if_neg (by omega), show (v.l[k].i - v.i - 1).toNat = k by omega, List.getElem?_eq_getElem hk]
    exact ⟨rfl, h2⟩
  rintro ⟨h1, h2⟩
  by_cases hi : n = v.i
  · rw [if_pos hi] at h1; exact .inl ⟨hi, h1.symm⟩
  have hk : (n - v.i - 1).toNat < v.l.length := by unfold Wv.last at h2; omega
  rw [if_neg hi, if_neg (by omega), List.getElem?_eq_getElem hk] at h1
  have h3 := hidx _ hk
  exact .inr ⟨_, List.getElem_mem hk, by omega, h1⟩
theorem Wv.fits_zero (v : Wv) (n t : Int) : v.fits n t ↔ ((n = v.i ∧ t = v.t) ∨ ∃ x ∈ v.l.take v.l.length, x.i = n ∧ x.t = t) := by rw [List.take_length]; rfl
/-- How a rebase behind the law's play ends. -/
theorem rebase_end {v : Lo} {V : Wv → Prop} (h : v.Good V) (hc : v.Cap 60 149000) (hr : v.d.room = 16777216) (hf : v.Fit 60 400393216) (n t : Int) :
    (v.rebase n t = (51, v) ∧ (n < v.s.v.i ∨ 1099511627776 < n ∨ t < 0 ∨ 1099511627776 < t)) ∨
    (¬ (n < v.s.v.i ∨ 1099511627776 < n ∨ t < 0 ∨ 1099511627776 < t) ∧ (v.rebase n t).1 = 0 ∧ (v.rebase n t).2.s.v = v.s.v.rebased n t) := by
  have hi := (within_big h.gd.1.i).1
  have hw : ∀ x : Int, withinS x 0 = true ↔ (0 ≤ x ∧ x ≤ 1099511627776) := fun x => by unfold withinS; simp
  have hC : (n < v.s.v.i ∨ withinS n 0 = false ∨ withinS t 0 = false) ↔ (n < v.s.v.i ∨ 1099511627776 < n ∨ t < 0 ∨ 1099511627776 < t) := by
    rw [← Bool.not_eq_true (withinS n 0), ← Bool.not_eq_true (withinS t 0), hw, hw]; omega
  rcases rebase_to h (by have := hf.tt; omega) n t with ⟨h1, h2⟩ | ⟨h1, h2⟩ | ⟨h0, h2, h3⟩
  · exact .inl ⟨h1, hC.1 h2⟩
  · by_cases hcc : n < v.s.v.i ∨ withinS n 0 = false ∨ withinS t 0 = false
    · have e : v.rebase n t = (51, v) := by unfold Lo.rebase; rw [if_pos hcc]
      exact .inl ⟨e, hC.1 hcc⟩
    exfalso
    rcases h2 with h2 | h2
    · have h5 := files_le (k := 60) (by decide) (hf.ok.seen ▸ (runAll_ok _ _ hf.ok.fits hf.ok.rise hf.ok.len).1) (hf.on.seen hf.ok)
      omega
    have hwr : wt22 (v.s.v.rebased n t).l ≤ wt22 v.s.v.l := by
      show wt22 (if v.s.v.at_ n = t ∧ n ≤ v.s.v.last then v.s.v.l.drop (n - v.s.v.i).toNat else []) ≤ _
      split
      · exact wt22_drop _ _
      exact Nat.zero_le _
    have hws := whole_22 (Sound.rebased h.gd.1 (n := n) (t := t) (by omega) (by
      cases e1 : withinS n 0 with
      | true => rfl
      | false => exact absurd (.inr (.inl e1)) hcc) (by
      cases e1 : withinS t 0 with
      | true => rfl
      | false => exact absurd (.inr (.inr e1)) hcc))
    have h6 := hc.used
    have h7 := hc.wt
    omega
  exact .inr ⟨fun h => h0 (hC.2 h), h2, h3.view⟩
def LastPost (v : Wv) (w : World) (e : Ending) (w' : World) : Prop := e = .returned (.int .i64 v.last) ∧ Ext w w'
theorem VLast_any {w : World} {v : Wv} {a : Option Addr} {n c : Nat} (hn : n = v.l.length) (h0 : 0 ≤ v.i) (h1 : v.i ≤ 1099511627776) (h2 : n ≤ 140737488351232) :
    Calls Tryz.prog 20 #[vwV v (.slice a n c)] w (LastPost v w) := by
  have hl : v.last = v.i + (n : Int) := by unfold Wv.last; rw [hn]
  have HL := hid hl
  clear hl hn
  unfold vwV
  go_enter Tryz.func20, Tryz.ntmps20
  go_wp2
  go_ret
  exact ⟨by rw [HL.out]; go_num, ext_alloc _ _⟩
end Go.Proofs.YtikjckdoldiddaaGreatDoor
