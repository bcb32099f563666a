/- The walk of the reference's Intake.Take. Printed by gen_vt1.py. -/
import Derived.Test.YtjapeaoebjmpnaaGreatDoorB24
import Derived.Test.YtjapeaoebjmpnaaGreatDoorB25
namespace Go.Proofs.YtjapeaoebjmpnaaGreatDoor
open Go.RowKit Go.Maps
set_option linter.unusedVariables false
set_option linter.unusedSimpArgs false
attribute [local go_sem] bmax2 bmin2 bmax_two bmin_two

end Go.Proofs.YtjapeaoebjmpnaaGreatDoor

/- Lists of pieces in memory; from what a reader reads to them. -/
namespace Go.Proofs.YtjapeaoebjmpnaaGreatDoor
open Go.RowKit Go.ChangeShapes Go.WideShapes Go.Deep Go.Joins Go.Maps
set_option linter.unusedVariables false
set_option linter.unusedSimpArgs false
structure Pt where
  i : Int
  t : Int
  k : Int
  d : By
  done : Bool
/-- A piece's five cells. -/
def PtAt (F : Nat → Prop) (w : World) (b o : Nat) (p : Pt) : Prop :=
  ∃ da dn dc, w.cell? ⟨b, o, none⟩ = some (.int .i64 p.i) ∧ w.cell? ⟨b, o + 1, none⟩ = some (.int .i64 p.t) ∧ w.cell? ⟨b, o + 2, none⟩ = some (.int .i64 p.k) ∧ w.cell? ⟨b, o + 3, none⟩ = some (.slice da dn dc) ∧ w.cell? ⟨b, o + 4, none⟩ = some (.bool p.done) ∧
    (In64 p.i ∧ In64 p.t ∧ In64 p.k) ∧ ByF F w da dn dc p.d
theorem PtAt.keep {F G : Nat → Prop} {w w' : World} {b o : Nat} {k : Pt} (h : PtAt F w b o k) (hb : w'.heap[b]? = w.heap[b]?) (hf : ∀ q, F q → q < w.heap.size → G q ∧ w'.heap[q]? = w.heap[q]?) : PtAt G w' b o k := by
  obtain ⟨da, dn, dc, h0, h1, h2, h3, h4, h5, h6⟩ := h
  have hc : ∀ j, w'.cell? ⟨b, j, none⟩ = w.cell? ⟨b, j, none⟩ := fun j => World.cell?_of_block (w := w) (a := ⟨b, j, none⟩) hb
  exact ⟨da, dn, dc, (hc _).trans h0, (hc _).trans h1, (hc _).trans h2, (hc _).trans h3, (hc _).trans h4, h5, h6.keep hf⟩
def PtsF (F : Nat → Prop) (w : World) (a : Option Addr) (n c : Nat) (l : List Pt) : Prop :=
  n = l.length ∧ n ≤ c ∧ c ≤ maxLen ∧ (a = none → c = 0) ∧ ∀ p, a = some p → (0 < c → p.spot = none) ∧ ∀ k, (h : k < l.length) → F p.block ∧ PtAt F w p.block (p.off + k * 5) l[k]
theorem PtsF.keep {F G : Nat → Prop} {w w' : World} {a : Option Addr} {n c : Nat} {l : List Pt} (h : PtsF F w a n c l) (hf : ∀ k, F k → k < w.heap.size → G k ∧ w'.heap[k]? = w.heap[k]?) : PtsF G w' a n c l := by
  obtain ⟨h1, h2, h3, h4, h5⟩ := h
  refine ⟨h1, h2, h3, h4, fun p hp => ⟨(h5 p hp).1, fun k hk => ?_⟩⟩
  obtain ⟨h6, h7⟩ := (h5 p hp).2 k hk
  have hl : p.block < w.heap.size := by
    obtain ⟨_, _, _, h8, -⟩ := h7
    exact World.block_lt_of_cell? w ⟨p.block, p.off + k * 5, none⟩ h8
  exact ⟨(hf _ h6 hl).1, h7.keep (hf _ h6 hl).2 hf⟩
theorem PtsF.below {F : Nat → Prop} {w w' : World} {a : Option Addr} {n c : Nat} {l : List Pt} (h : PtsF F w a n c l) (hx : Ext w w') : PtsF F w' a n c l := h.keep fun k hk hl => ⟨hk, hx.block k hl⟩
theorem PtsF.nil_ (F : Nat → Prop) (w : World) : PtsF F w none 0 0 [] := ⟨rfl, by simp, by simp, fun _ => rfl, fun p hp => by cases hp⟩
theorem PtsF.at_ {F : Nat → Prop} {w : World} {a : Option Addr} {n c : Nat} {l : List Pt} (h : PtsF F w a n c l) {k : Nat} (hk : k < n) : ∃ b o, a = some ⟨b, o, none⟩ ∧ F b ∧ b < w.heap.size ∧ ∃ hl : k < l.length, PtAt F w b (o + k * 5) l[k] := by
  obtain ⟨rfl, h2, h3, h4, h5⟩ := h
  cases a with
  | none => have := h4 rfl; omega
  | some p =>
    obtain ⟨b, o, s⟩ := p
    have hs : s = none := (h5 _ rfl).1 (by omega)
    subst hs
    obtain ⟨h6, h7⟩ := (h5 _ rfl).2 k hk
    have hl : b < w.heap.size := by
      obtain ⟨_, _, _, h8, -⟩ := h7
      exact World.block_lt_of_cell? w ⟨b, o + k * 5, none⟩ h8
    exact ⟨b, o, rfl, h6, hl, hk, h7⟩
section
variable {H : Type} {enc : TypeId × Value → H} {w : World}
end
end Go.Proofs.YtjapeaoebjmpnaaGreatDoor

/- A row of bytes that a loop writes, whatever they are. -/
namespace Go.Proofs.YtjapeaoebjmpnaaGreatDoor
open Go.RowKit Go.Maps
set_option linter.unusedVariables false
set_option linter.unusedSimpArgs false
def Row8 (D : Nat → Prop) (W : World) (a : Option Addr) (n : Nat) : Prop :=
  ∀ k, k < n → ∃ b x, a = some ⟨b, 0, none⟩ ∧ D b ∧ b < W.heap.size ∧ W.cell? ⟨b, k, none⟩ = some (.int .u8 x) ∧ W.frozen? ⟨b, k, none⟩ = false
theorem Row8.of_own {w : World} {B : Nat} {a : Option Addr} {n c : Nat} {d : By} (h : w.ownsRow B 5 1 (.slice a n c) n (u8s d)) (hn : n = d.length) : Row8 (fun q => B ≤ q ∧ q < w.heap.size) w a n := fun k hk => by
  rcases h.2 with ⟨e, e2⟩ | ⟨g, cap, cur, e, hb, hg, hc, -, hcs, hxs⟩
  · omega
  injection e with e1 e2 e3
  subst e1
  have hl := (Array.getElem?_eq_some_iff.1 hg).1
  have hk2 : k < cur.size := by omega
  have hk3 : k < d.length := by omega
  refine ⟨g, (d[k].toNat : Int), rfl, ⟨hb, hl⟩, hl, ?_, ?_⟩
  · have h1 : (cur.toList.take (n * 1))[k]? = (u8s d)[k]? := by rw [hxs]
    rw [List.getElem?_take_of_lt (by omega)] at h1
    have h2 : (u8s d)[k]? = some (.int .u8 (d[k].toNat : Int)) := by
      unfold u8s
      rw [List.getElem?_map, List.getElem?_eq_getElem hk3]
      rfl
    rw [h2] at h1
    unfold World.cell?
    rw [hg]
    simpa using h1
  unfold World.frozen?
  rw [hg]
  simp
theorem Row8.set {D : Nat → Prop} {W : World} {b n : Nat} (h : Row8 D W (some ⟨b, 0, none⟩) n) {k : Nat} (hk : k < n) (v : Int) : Row8 D (W.setCell ⟨b, k, none⟩ (.int .u8 v)) (some ⟨b, 0, none⟩) n := fun j hj => by
  obtain ⟨b', x, e, h1, h2, h3, h4⟩ := h j hj
  cases e
  by_cases hjk : k = j
  · subst hjk
    exact ⟨b, v, rfl, h1, by simpa using h2, World.cell?_setCell_same _ _ _ h3, by rw [World.frozen?_setCell]; exact h4⟩
  exact ⟨b, x, rfl, h1, by simpa using h2, (World.cell?_setCell_other _ _ _ _ (by intro e; injection e with _ e _; exact hjk e)).trans h3, by rw [World.frozen?_setCell]; exact h4⟩
theorem Row8.keep {D E : Nat → Prop} {w w' : World} {a : Option Addr} {n : Nat} (h : Row8 D w a n) (hf : ∀ q, D q → q < w.heap.size → E q ∧ w'.heap[q]? = w.heap[q]?) (hz : w.heap.size ≤ w'.heap.size) : Row8 E w' a n := fun k hk => by
  obtain ⟨b, x, e, h1, h2, h3, h4⟩ := h k hk
  have h5 := hf b h1 h2
  exact ⟨b, x, e, h5.1, by omega, (World.cell?_of_block (w := w) (a := ⟨b, k, none⟩) h5.2).trans h3, (World.frozen?_of_block (w := w) (a := ⟨b, k, none⟩) h5.2).trans h4⟩
end Go.Proofs.YtjapeaoebjmpnaaGreatDoor
