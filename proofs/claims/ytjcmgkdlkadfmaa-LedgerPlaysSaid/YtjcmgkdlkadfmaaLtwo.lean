/- What the laws about a base and a call share. -/
import Derived.Test.YtjcmgkdlkadfmaaLFreshW
import Derived.Test.YtjcmgkdlkadfmaaLw7
import Derived.Test.YtjcmgkdlkadfmaaLd2
namespace Go.Proofs.Ytjcmgkdlkadfmaa
open Go.RowKit
set_option linter.unusedVariables false
set_option linter.unusedSimpArgs false
attribute [local go_sem] bmax2 bmin2 bmax_two bmin_two

abbrev doV (o x t : Int) (a : Option Addr) (n c : Nat) : Value := .agg #[.int .i64 o, .int .i64 x, .int .i64 t, .slice a n c]

theorem LLsF.two {F G : Nat → Prop} {w : World} {a1 a2 : Option Addr} {n1 c1 n2 c2 : Nat} {l1 l2 : List Ent} (t : TypeId) (h1 : EsF F w a1 n1 c1 l1) (h2 : EsF G w a2 n2 c2 l2) {q : Nat} (hq : q = w.heap.size) :
    LLsF (fun _ => True) (w.alloc (.cells #[.slice a1 n1 c1, .slice a2 n2 c2] t)) (some ⟨q, 0, none⟩) 2 [l1, l2] := by
  subst hq
  refine ⟨rfl, by decide, (fun e => by cases e), fun p hp => ?_⟩
  cases hp
  refine ⟨rfl, fun k hk => ?_⟩
  match k, hk with
  | 0, _ => exact ⟨a1, n1, c1, by unfold World.cell?; rw [heap_alloc_new]; rfl, (h1.below (ext_alloc _ _)).more fun _ _ => trivial⟩
  | 1, _ => exact ⟨a2, n2, c2, by unfold World.cell?; rw [heap_alloc_new]; rfl, (h2.below (ext_alloc _ _)).more fun _ _ => trivial⟩

/-- A base and a call in new blocks, and the array for light behind them. -/
theorem base_do_cells (w : World) (i t : Int) (a : Option Addr) (n c : Nat) (o x y : Int) (a' : Option Addr) (n' c' : Nat) (ty ty' ty'' : TypeId) (u v : Value) :
    let w1 := ((w.alloc (.cells #[.int .i64 i, .int .i64 t, .slice a n c] ty)).alloc (.cells #[.int .i64 o, .int .i64 x, .int .i64 y, .slice a' n' c'] ty')).alloc (.cells #[u, v] ty'')
    w1.heap[w.heap.size]? = some (.cells #[.int .i64 i, .int .i64 t, .slice a n c] ty (0, 0)) ∧ w1.heap[w.heap.size + 1]? = some (.cells #[.int .i64 o, .int .i64 x, .int .i64 y, .slice a' n' c'] ty' (0, 0)) ∧ w.heap.size + 1 < w1.heap.size ∧ Ext w w1 := by
  intro w1
  refine ⟨?_, ?_, by simp [w1], Ext.trans' (Ext.trans' (ext_alloc _ _) (ext_alloc _ _)) (ext_alloc _ _)⟩
  · rw [Below.heap_alloc _ _ _ (by simp; omega), Below.heap_alloc _ _ _ (by simp)]
    exact heap_alloc_new w _
  · rw [Below.heap_alloc _ _ _ (by simp)]
    have := heap_alloc_new (w.alloc (.cells #[.int .i64 i, .int .i64 t, .slice a n c] ty)) (.cells #[.int .i64 o, .int .i64 x, .int .i64 y, .slice a' n' c'] ty')
    simpa using this

/-- A writer that answers a code: 0, or nothing changed. -/
def CodePost (w : World) (b : Nat) (e : Ending) (w' : World) : Prop := ∃ z : Int, e = .returned (.int .i64 z) ∧ ((z == 0) = true ∧ w.grownBy w' (some b) ∨ (z == 0) = false ∧ Ext w w')

theorem Add_any {F G : Nat → Prop} {w : World} {b : Nat} {s : LS} (h : LedAt F w b s) (hF : ∀ k, w.heap.size ≤ k → F k) (hok : s.Ok) {a : Option Addr} {n c : Nat} {more : List Ent} (hm : EsF G w a n c more) (hsz : s.l.length + more.length ≤ 100000) :
    Calls Try.prog 33 #[.pointer (some ⟨b, 0, none⟩), .slice a n c] w (CodePost w b) := by
  cases hr : risesS s.lastI s.lastT more with
  | true =>
    refine (Add_ok h hF hm hr hok (by omega)).mono ?_
    rintro e w' ⟨rfl, -, hg⟩
    exact ⟨0, rfl, .inl ⟨rfl, hg⟩⟩
  | false =>
    refine (Add_bad h hm hr hok).mono ?_
    rintro e w' ⟨rfl, hg⟩
    exact ⟨110, rfl, .inr ⟨rfl, hg⟩⟩
theorem Cut_any {F : Nat → Prop} {w : World} {b : Nat} {s : LS} (h : LedAt F w b s) (hF : ∀ k, w.heap.size ≤ k → F k) (hok : s.Ok) (x : Int) :
    Calls Try.prog 32 #[.pointer (some ⟨b, 0, none⟩), .int .i64 x] w (CodePost w b) := by
  by_cases hx : s.i < x ∧ x ≤ s.lastI
  · refine (Cut_ok h hF hok x hx).mono ?_
    rintro e w' ⟨rfl, -, hg⟩
    exact ⟨0, rfl, .inl ⟨rfl, hg⟩⟩
  · refine (Cut_bad h x (by omega)).mono ?_
    rintro e w' ⟨rfl, hg⟩
    exact ⟨51, rfl, .inr ⟨rfl, hg⟩⟩
theorem Rebase_any {F : Nat → Prop} {w : World} {b : Nat} {s : LS} (h : LedAt F w b s) (hF : ∀ k, w.heap.size ≤ k → F k) (hok : s.Ok) (x t : Int) (hx : In64 x) :
    Calls Try.prog 34 #[.pointer (some ⟨b, 0, none⟩), .int .i64 x, .int .i64 t] w (CodePost w b) := by
  by_cases hg : goodS x t = true ∧ s.i ≤ x
  · by_cases ht : s.term x = some t
    · refine (Rebase_some h hF hok x t hx hg.1 hg.2 ht).mono ?_
      rintro e w' ⟨rfl, -, hg⟩
      exact ⟨0, rfl, .inl ⟨rfl, hg⟩⟩
    · refine (Rebase_none h hok x t hx hg.1 hg.2 ht).mono ?_
      rintro e w' ⟨rfl, -, hg⟩
      exact ⟨0, rfl, .inl ⟨rfl, hg⟩⟩
  · refine (Rebase_bad h x t ?_).mono ?_
    · cases hgs : goodS x t with
      | false => exact .inl rfl
      | true => exact .inr (by rw [hgs] at hg; simp at hg; omega)
    · rintro e w' ⟨rfl, hg⟩
      exact ⟨110, rfl, .inr ⟨rfl, hg⟩⟩
end Go.Proofs.Ytjcmgkdlkadfmaa
