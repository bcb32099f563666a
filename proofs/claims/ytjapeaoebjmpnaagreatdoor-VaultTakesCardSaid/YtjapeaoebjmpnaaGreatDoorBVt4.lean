/- A row of bytes that a loop writes, whatever they are. -/
import Derived.Test.YtjapeaoebjmpnaaGreatDoorBVt2
namespace Go.Proofs.YtjapeaoebjmpnaaGreatDoor
open Go.RowKit Go.Maps
set_option linter.unusedVariables false
set_option linter.unusedSimpArgs false
def Row8 (D : Nat → Prop) (W : World) (a : Option Addr) (n : Nat) : Prop :=
  ∀ k, k < n → ∃ b x, a = some ⟨b, 0, none⟩ ∧ D b ∧ b < W.heap.size ∧ W.cell? ⟨b, k, none⟩ = some (.int .u8 x) ∧ W.frozen? ⟨b, k, none⟩ = false
theorem Row8.of_own {w : World} {B : Nat} {a : Option Addr} {n c : Nat} {d : By} (h : w.ownsRow B 5 1 (.slice a n c) n (u8s d)) (hn : n = d.length) : Row8 (fun q => B ≤ q ∧ q < w.heap.size) w a n := fun k hk => by
  rcases h.2 with ⟨e, e2⟩ | ⟨g, cap, cur, e, hb, hg, hc, -, hcs, hxs⟩
  · omega
  · injection e with e1 e2 e3
    subst e1
    have hl := (Array.getElem?_eq_some_iff.1 hg).1
    have hk2 : k < cur.size := by omega
    have hk3 : k < d.length := by omega
    refine ⟨g, (d[k].toNat : Int), rfl, ⟨hb, hl⟩, hl, ?_, ?_⟩
    · have h1 : (cur.toList.take (n * 1))[k]? = (u8s d)[k]? := by rw [hxs]
      rw [List.getElem?_take_of_lt (by omega)] at h1
      have h2 : (u8s d)[k]? = some (.int .u8 (d[k].toNat : Int)) := by
        unfold u8s
        rw [List.getElem?_map, List.getElem?_eq_getElem hk3]
        rfl
      rw [h2] at h1
      unfold World.cell?
      rw [hg]
      simpa using h1
    · unfold World.frozen?
      rw [hg]
      simp
theorem Row8.set {D : Nat → Prop} {W : World} {b n : Nat} (h : Row8 D W (some ⟨b, 0, none⟩) n) {k : Nat} (hk : k < n) (v : Int) : Row8 D (W.setCell ⟨b, k, none⟩ (.int .u8 v)) (some ⟨b, 0, none⟩) n := fun j hj => by
  obtain ⟨b', x, e, h1, h2, h3, h4⟩ := h j hj
  cases e
  by_cases hjk : k = j
  · subst hjk
    exact ⟨b, v, rfl, h1, by simpa using h2, World.cell?_setCell_same _ _ _ h3, by rw [World.frozen?_setCell]; exact h4⟩
  · exact ⟨b, x, rfl, h1, by simpa using h2, (World.cell?_setCell_other _ _ _ _ (by intro e; injection e with _ e _; exact hjk e)).trans h3, by rw [World.frozen?_setCell]; exact h4⟩
theorem Row8.keep {D E : Nat → Prop} {w w' : World} {a : Option Addr} {n : Nat} (h : Row8 D w a n) (hf : ∀ q, D q → q < w.heap.size → E q ∧ w'.heap[q]? = w.heap[q]?) (hz : w.heap.size ≤ w'.heap.size) : Row8 E w' a n := fun k hk => by
  obtain ⟨b, x, e, h1, h2, h3, h4⟩ := h k hk
  have h5 := hf b h1 h2
  exact ⟨b, x, e, h5.1, by omega, (World.cell?_of_block (w := w) (a := ⟨b, k, none⟩) h5.2).trans h3, (World.frozen?_of_block (w := w) (a := ⟨b, k, none⟩) h5.2).trans h4⟩
end Go.Proofs.YtjapeaoebjmpnaaGreatDoor
