/- A row that is filled entry by entry. -/
import Derived.Test.YtjcmgkdlkadfmaaLa
namespace Go.Proofs.Ytjcmgkdlkadfmaa
open Go.RowKit
set_option linter.unusedVariables false
set_option linter.unusedSimpArgs false

theorem MixAt.none_ {F : Nat → Prop} {w : World} {Z : Array Value} {n : Nat} {ent : TypeId} (l : List Ent) (hZ : Z.size = n * 3) (hn : n ≤ maxLen) : MixAt F (w.alloc (.cells Z ent)) w.heap.size n ent (l.take 0) 0 := by
  refine ⟨⟨Z, heap_alloc_new w _, hZ⟩, by simp, hn, by simp, fun j hj => ?_, fun j hj => ?_, fun j hj => ?_⟩
  all_goals simp at hj
/-- The row's next three cells, whatever they are. -/
theorem MixAt.cells {F : Nat → Prop} {w : World} {g cap : Nat} {ent : TypeId} {l : List Ent} {k j : Nat} (h : MixAt F w g cap ent l j) (hk : k < cap) :
    (∃ v, w.cell? ⟨g, k * 3, none⟩ = some v) ∧ (∃ v, w.cell? ⟨g, k * 3 + 1, none⟩ = some v) ∧ (∃ v, w.cell? ⟨g, k * 3 + 2, none⟩ = some v) ∧ (∀ q, w.frozen? ⟨g, q, none⟩ = false) ∧ g < w.heap.size := by
  obtain ⟨cur, hc, hs⟩ := h.row
  have hx : ∀ q, q < cap * 3 → ∃ v, w.cell? ⟨g, q, none⟩ = some v := fun q hq => by
    refine ⟨cur[q]'(by omega), ?_⟩
    simp [World.cell?, hc]
  refine ⟨hx _ (by omega), hx _ (by omega), hx _ (by omega), fun q => by simp [World.frozen?, hc], (Array.getElem?_eq_some_iff.1 hc).1⟩
theorem MixAt.alloc {F : Nat → Prop} {w w' : World} {g cap : Nat} {ent : TypeId} {l : List Ent} {k : Nat} (h : MixAt F w g cap ent l k) (hx : Ext w w') (hg : g < w.heap.size) : MixAt F w' g cap ent l k := by
  obtain ⟨cur, hc, hs⟩ := h.row
  refine ⟨⟨cur, (hx.block g hg).trans hc, hs⟩, h.len, h.cap, h.most, fun j hj hk => (h.old j hj hk).below hx, fun j hj hk => (h.each j hj hk).below hx, fun j hj hk p n c hp => ?_⟩
  obtain ⟨-, -, h3, -, a0, n0, c0, h5, h6⟩ := h.each j hj hk
  have h5' := (hx.cell (p := ⟨g, j * 3 + 2, none⟩) hg).trans h5
  rw [h5'] at hp
  simp only [Option.some.injEq, Value.slice.injEq] at hp
  obtain ⟨rfl, rfl, rfl⟩ := hp
  obtain ⟨hp, hz⟩ := h.soft j hj hk p n0 c0 h5
  exact ⟨Nat.lt_of_lt_of_le hp hx.size, fun i => (hx.frozen (p := ⟨p.block, i, none⟩) hp).trans (hz i)⟩

theorem set3_cell (w : World) (g o : Nat) (u0 u1 u2 v0 v1 v2 : Value) (h0 : w.cell? ⟨g, o, none⟩ = some v0) (h1 : w.cell? ⟨g, o + 1, none⟩ = some v1) (h2 : w.cell? ⟨g, o + 2, none⟩ = some v2) :
    let w' := ((w.setCell ⟨g, o, none⟩ u0).setCell ⟨g, o + 1, none⟩ u1).setCell ⟨g, o + 2, none⟩ u2
    w'.cell? ⟨g, o, none⟩ = some u0 ∧ w'.cell? ⟨g, o + 1, none⟩ = some u1 ∧ w'.cell? ⟨g, o + 2, none⟩ = some u2 ∧ (∀ q, (q < o ∨ o + 3 ≤ q) → w'.cell? ⟨g, q, none⟩ = w.cell? ⟨g, q, none⟩) ∧ (∀ b, b ≠ g → w'.heap[b]? = w.heap[b]?) ∧ w'.heap.size = w.heap.size := by
  intro w'
  have hne : ∀ (W : World) (a b : Nat) (u : Value), a ≠ b → (W.setCell ⟨g, a, none⟩ u).cell? ⟨g, b, none⟩ = W.cell? ⟨g, b, none⟩ := fun W a b u h =>
    World.cell?_setCell_other W _ _ u (by intro e; simp only [Addr.mk.injEq, true_and, and_true] at e; omega)
  refine ⟨?_, ?_, ?_, fun q hq => ?_, fun b hb => ?_, by simp [w', World.setCell]⟩
  · simp only [w']
    rw [hne _ _ _ _ (by omega), hne _ _ _ _ (by omega)]
    exact World.cell?_setCell_same w _ _ h0
  · simp only [w']
    rw [hne _ _ _ _ (by omega)]
    exact World.cell?_setCell_same _ _ _ ((hne _ _ _ _ (by omega)).trans h1)
  · exact World.cell?_setCell_same _ _ _ ((hne _ _ _ _ (by omega)).trans ((hne _ _ _ _ (by omega)).trans h2))
  · simp only [w']
    rw [hne _ _ _ _ (by omega), hne _ _ _ _ (by omega), hne _ _ _ _ (by omega)]
  · simp only [w']
    rw [heap_setCell_other _ _ b _ hb, heap_setCell_other _ _ b _ hb, heap_setCell_other _ _ b _ hb]

theorem MixAt.store {F : Nat → Prop} {w : World} {g cap : Nat} {ent : TypeId} {l : List Ent} {k : Nat} (h : MixAt F w g cap ent (l.take k) k) (hk : k < l.length) (hcap : l.length ≤ cap) (h40 : l.length * 40 ≤ 140737488351232) (hg : ¬ F g)
    {a : Option Addr} {n c : Nat} (hi : In64 l[k].i) (ht : In64 l[k].t) (hd : ByF F w a n c l[k].d) :
    MixAt F (((w.setCell ⟨g, k * 3, none⟩ (.int .i64 l[k].i)).setCell ⟨g, k * 3 + 1, none⟩ (.int .i64 l[k].t)).setCell ⟨g, k * 3 + 2, none⟩ (.slice a n c)) g cap ent (l.take (k + 1)) k := by
  obtain ⟨⟨v0, g0⟩, ⟨v1, g1⟩, ⟨v2, g2⟩, hfz, hgl⟩ := h.cells (k := k) (by omega)
  obtain ⟨q0, q1, q2, q3, q4, q5⟩ := set3_cell w g (k * 3) (.int .i64 l[k].i) (.int .i64 l[k].t) (.slice a n c) v0 v1 v2 g0 g1 g2
  obtain ⟨cur, hc, hs⟩ := h.row
  have hlen : (l.take k).length = k := by simp; omega
  have hrow : ∃ cur', (((w.setCell ⟨g, k * 3, none⟩ (.int .i64 l[k].i)).setCell ⟨g, k * 3 + 1, none⟩ (.int .i64 l[k].t)).setCell ⟨g, k * 3 + 2, none⟩ (.slice a n c)).heap[g]? = some (.cells cur' ent (0, 0)) ∧ cur'.size = cap * 3 := by
    have e0 := heap_setCell_same w g (k * 3) cur ent (.int .i64 l[k].i) hc
    have e1 := heap_setCell_same _ g (k * 3 + 1) _ ent (.int .i64 l[k].t) e0
    have e2 := heap_setCell_same _ g (k * 3 + 2) _ ent (.slice a n c) e1
    exact ⟨_, e2, by simpa using hs⟩
  refine ⟨hrow, by simp; omega, h.cap, by simp; omega, fun j hj hkj => ?_, fun j hj hjk => ?_, fun j hj hjk p n' c' hp => ?_⟩
  · have hjk : j = k := by simp at hj; omega
    subst hjk
    have he : (l.take (j + 1))[j] = l[j] := by rw [List.getElem_take]
    rw [he]
    exact ⟨hi, ht, q0, q1, a, n, c, q2, hd.keep fun b hb _ => ⟨hb, q4 b (by rintro rfl; exact hg hb)⟩⟩
  · have he : (l.take (k + 1))[j] = (l.take k)[j]'(by omega) := by rw [List.getElem_take, List.getElem_take]
    rw [he]
    obtain ⟨h1, h2, h3, h4, a0, n0, c0, h5, h6⟩ := h.each j (by omega) hjk
    exact ⟨h1, h2, (q3 _ (by omega)).trans h3, (q3 _ (by omega)).trans h4, a0, n0, c0, (q3 _ (by omega)).trans h5, h6.keep fun b hb _ => ⟨hb, q4 b (by omega)⟩⟩
  · rw [q3 _ (by omega)] at hp
    obtain ⟨h1, h2⟩ := h.soft j (by omega) hjk p n' c' hp
    exact ⟨by rw [q5]; exact h1, fun i => by simp only [World.frozen?_setCell]; exact h2 i⟩

theorem MixAt.step2 {F : Nat → Prop} {w w2 : World} {g cap : Nat} {ent : TypeId} {l : List Ent} {k : Nat} {E : Ent} (h : MixAt F w g cap ent (l.take (k + 1)) k) (hk : k < l.length) (hE : E = l[k]) (hF : ∀ b, F b → b < g) (hb : Ext w w2)
    {a : Option Addr} {c : Nat} (hd : ByF (fun b => w.heap.size ≤ b) w2 a E.d.length c E.d) (hs : ∀ p, a = some p → p.block < w2.heap.size ∧ ∀ j, w2.frozen? ⟨p.block, j, none⟩ = false) :
    MixAt F (w2.setCell ⟨g, k * 3 + 2, none⟩ (.slice a E.d.length c)) g cap ent (l.take (k + 1)) (k + 1) := by
  have he : (l.take (k + 1))[k]'(by simp; omega) = E := by rw [List.getElem_take, hE]
  subst he
  exact h.step (by simp; omega) hF hb hd hs
end Go.Proofs.Ytjcmgkdlkadfmaa
