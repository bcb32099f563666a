/- The writers, the program's and the reference's, with what they leave. -/
import Derived.Test.YtjcmgkdlkadfmaaLtwo
import Derived.Test.YtjcmgkdlkadfmaaLr6
import Derived.Test.YtjcmgkdlkadfmaaLmp
namespace Go.Proofs.Ytjcmgkdlkadfmaa
open Go.RowKit
set_option linter.unusedVariables false
set_option linter.unusedSimpArgs false

def LS.addS (s : LS) (m : List Ent) : Int × LS := if risesS s.lastI s.lastT m = true then (0, ⟨s.i, s.t, s.l ++ m⟩) else (110, s)
def LS.cutS (s : LS) (x : Int) : Int × LS := if s.i < x ∧ x ≤ s.lastI then (0, ⟨s.i, s.t, s.l.take (x - s.i - 1).toNat⟩) else (51, s)
def LS.rebS (s : LS) (x t : Int) : Int × LS := if goodS x t = true ∧ s.i ≤ x then (0, s.rebase x t) else (110, s)
theorem LS.Ok.addS {s : LS} (h : s.Ok) (m : List Ent) : (s.addS m).2.Ok := by
  unfold LS.addS; split
  · rename_i hr; exact h.add hr
  · exact h
theorem LS.Ok.cutS {s : LS} (h : s.Ok) (x : Int) : (s.cutS x).2.Ok := by
  unfold LS.cutS; split
  · exact h.cut _
  · exact h
theorem LS.Ok.rebS {s : LS} (h : s.Ok) (x t : Int) : (s.rebS x t).2.Ok := by
  unfold LS.rebS; split
  · rename_i hg
    refine ⟨hg.1, ?_⟩
    unfold LS.rebase
    dsimp only
    by_cases ht : s.term x = some t
    · rw [if_pos ht]
      have hx := LS.term_some ht
      have hr := (rises_take_drop s.l s.i s.t (x - s.i).toNat h.2).2
      have hc := h.cut (x - s.i).toNat
      have hl := hc.lastI_eq
      have htl := hc.term_last
      have hlen : (s.l.take (x - s.i).toNat).length = (x - s.i).toNat := by simp; omega
      dsimp only at hl
      rw [hlen] at hl
      have hlx : LS.lastI ⟨s.i, s.t, s.l.take (x - s.i).toNat⟩ = x := by omega
      rw [hlx] at htl hr
      have htc := LS.term_cut s (x - s.i).toNat [] (by omega) (y := x) (by omega)
      rw [List.append_nil, htl, ht] at htc
      injection htc with htc
      rw [htc] at hr
      exact hr
    · rw [if_neg ht]; rfl
  · exact h
theorem LS.addS_len (s : LS) (m : List Ent) : (s.addS m).2.l.length ≤ s.l.length + m.length := by
  unfold LS.addS; split <;> simp
theorem LS.cutS_len (s : LS) (x : Int) : (s.cutS x).2.l.length ≤ s.l.length := by
  unfold LS.cutS; split <;> simp; omega
theorem LS.rebS_len (s : LS) (x t : Int) : (s.rebS x t).2.l.length ≤ s.l.length := by
  unfold LS.rebS LS.rebase; split
  · dsimp only; split <;> simp
  · simp

def WPost (F : Nat → Prop) (w : World) (b : Nat) (r : Int × LS) (e : Ending) (w' : World) : Prop := e = .returned (.int .i64 r.1) ∧ LedAt F w' b r.2 ∧ w.grownBy w' (some b)
def RWPost (F : Nat → Prop) (w : World) (b : Nat) (r : Int × LS) (e : Ending) (w' : World) : Prop := e = .returned (.int .i64 r.1) ∧ RefAt F w' b r.2 ∧ w.grownBy w' (some b)

theorem AddW {F G : Nat → Prop} {w : World} {b : Nat} {s : LS} (h : LedAt F w b s) (hF : ∀ k, w.heap.size ≤ k → F k) (hok : s.Ok) {a : Option Addr} {n c : Nat} {more : List Ent} (hm : EsF G w a n c more) (hsz : s.l.length + more.length ≤ 100000) :
    Calls Try.prog 33 #[.pointer (some ⟨b, 0, none⟩), .slice a n c] w (WPost F w b (s.addS more)) := by
  by_cases hr : risesS s.lastI s.lastT more = true
  · unfold LS.addS
    rw [if_pos hr]
    exact Add_ok h hF hm hr hok (by omega)
  · unfold LS.addS
    rw [if_neg hr]
    refine (Add_bad h hm (by simpa using hr) hok).mono ?_
    rintro e w' ⟨rfl, hg⟩
    exact ⟨rfl, h.below hg, grown_below hg _⟩
theorem CutW {F : Nat → Prop} {w : World} {b : Nat} {s : LS} (h : LedAt F w b s) (hF : ∀ k, w.heap.size ≤ k → F k) (hok : s.Ok) (x : Int) :
    Calls Try.prog 32 #[.pointer (some ⟨b, 0, none⟩), .int .i64 x] w (WPost F w b (s.cutS x)) := by
  by_cases hx : s.i < x ∧ x ≤ s.lastI
  · unfold LS.cutS
    rw [if_pos hx]
    exact Cut_ok h hF hok x hx
  · unfold LS.cutS
    rw [if_neg hx]
    refine (Cut_bad h x (by omega)).mono ?_
    rintro e w' ⟨rfl, hg⟩
    exact ⟨rfl, h.below hg, grown_below hg _⟩
theorem reb_bad {s : LS} {x t : Int} (hg : ¬ (goodS x t = true ∧ s.i ≤ x)) : goodS x t = false ∨ x < s.i := by
  cases hgs : goodS x t with
  | false => exact .inl rfl
  | true => exact .inr (by rw [hgs] at hg; simp at hg; omega)
theorem RebaseW {F : Nat → Prop} {w : World} {b : Nat} {s : LS} (h : LedAt F w b s) (hF : ∀ k, w.heap.size ≤ k → F k) (hok : s.Ok) (x t : Int) (hx : In64 x) :
    Calls Try.prog 34 #[.pointer (some ⟨b, 0, none⟩), .int .i64 x, .int .i64 t] w (WPost F w b (s.rebS x t)) := by
  by_cases hg : goodS x t = true ∧ s.i ≤ x
  · unfold LS.rebS
    rw [if_pos hg]
    by_cases ht : s.term x = some t
    · exact Rebase_some h hF hok x t hx hg.1 hg.2 ht
    · exact Rebase_none h hok x t hx hg.1 hg.2 ht
  · unfold LS.rebS
    rw [if_neg hg]
    refine (Rebase_bad h x t (reb_bad hg)).mono ?_
    rintro e w' ⟨rfl, hg⟩
    exact ⟨rfl, h.below hg, grown_below hg _⟩

theorem RAddW {F G : Nat → Prop} {w : World} {b : Nat} {s : LS} (h : RefAt F w b s) (hF : ∀ k, w.heap.size ≤ k → F k) (hG : ∀ k, G k → k < w.heap.size → F k) (hok : s.Ok) {a : Option Addr} {n c : Nat} {more : List Ent} (hm : EsF G w a n c more) (hsz : s.l.length + more.length ≤ 100000) :
    Calls Try.prog 38 #[.pointer (some ⟨b, 0, none⟩), .slice a n c] w (RWPost F w b (s.addS more)) := by
  by_cases hr : risesS s.lastI s.lastT more = true
  · unfold LS.addS
    rw [if_pos hr]
    exact RAdd_ok h hF hG hm hr hok (by omega)
  · unfold LS.addS
    rw [if_neg hr]
    refine (RAdd_bad h hm (by simpa using hr) hok).mono ?_
    rintro e w' ⟨rfl, hg⟩
    exact ⟨rfl, h.below hg, grown_below hg _⟩
theorem RCutW {F : Nat → Prop} {w : World} {b : Nat} {s : LS} (h : RefAt F w b s) (hok : s.Ok) (x : Int) :
    Calls Try.prog 36 #[.pointer (some ⟨b, 0, none⟩), .int .i64 x] w (RWPost F w b (s.cutS x)) := by
  by_cases hx : s.i < x ∧ x ≤ s.lastI
  · unfold LS.cutS
    rw [if_pos hx]
    exact RCut_ok h hok x hx
  · unfold LS.cutS
    rw [if_neg hx]
    refine (RCut_bad h hok x (by omega)).mono ?_
    rintro e w' ⟨rfl, hg⟩
    exact ⟨rfl, h.below hg, grown_below hg _⟩
theorem RRebaseW {F : Nat → Prop} {w : World} {b : Nat} {s : LS} (h : RefAt F w b s) (hF : ∀ k, w.heap.size ≤ k → F k) (hok : s.Ok) (x t : Int) (hx : In64 x) :
    Calls Try.prog 37 #[.pointer (some ⟨b, 0, none⟩), .int .i64 x, .int .i64 t] w (RWPost F w b (s.rebS x t)) := by
  by_cases hg : goodS x t = true ∧ s.i ≤ x
  · unfold LS.rebS
    rw [if_pos hg]
    by_cases ht : s.term x = some t
    · exact RRebase_some h hF hok x t hx hg.1 hg.2 ht
    · exact RRebase_none h hok x t hx hg.1 hg.2 ht
  · unfold LS.rebS
    rw [if_neg hg]
    refine (RRebase_bad h x t (reb_bad hg)).mono ?_
    rintro e w' ⟨rfl, hg⟩
    exact ⟨rfl, h.below hg, grown_below hg _⟩
end Go.Proofs.Ytjcmgkdlkadfmaa
