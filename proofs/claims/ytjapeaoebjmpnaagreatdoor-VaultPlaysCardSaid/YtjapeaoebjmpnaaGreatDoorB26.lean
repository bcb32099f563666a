/- The walk of VaultOver. Printed by gen_vx1.py. -/
import Derived.Test.YtjapeaoebjmpnaaGreatDoorB24
import Derived.Test.YtjapeaoebjmpnaaGreatDoorShelf
namespace Go.Proofs.YtjapeaoebjmpnaaGreatDoor
open Go.RowKit Go.Maps
set_option linter.unusedVariables false
set_option linter.unusedSimpArgs false
attribute [local go_sem] bmax2 bmin2 bmax_two bmin_two

theorem bytesOf_u8 (l : By) : Lib.bytesOf (l.map fun b => (b.toNat : Int)) = l := by
  unfold Lib.bytesOf
  rw [List.map_map]
  conv => rhs; rw [← List.map_id l]
  exact List.map_congr_left fun x _ => by simp
theorem bytesIn {F : Nat → Prop} {w : World} {a : Option Addr} {n c : Nat} {d : By} (h : ByF F w a n c d) : Lib.BytesIn w a n (d.map fun b => (b.toNat : Int)) := fun hn => by
  obtain ⟨h1, h2, -, h4, h5⟩ := h
  cases a with
  | none => have := h4 rfl; omega
  | some p =>
    obtain ⟨h6, h7⟩ := h5 p rfl
    obtain ⟨b, o, s⟩ := p
    obtain rfl : s = none := h6 (by omega)
    refine ⟨b, o, rfl, fun i hi => ?_⟩
    have hi' : i < d.length := by omega
    rw [(h7 i hi').2]
    congr 2
    rw [List.getD_eq_getElem?_getD, List.getElem?_map, List.getElem?_eq_getElem hi']
    rfl
theorem beq_any {F G : Nat → Prop} {w : World} {a b : Option Addr} {n c m k : Nat} {d e : By} (h : ByF F w a n c d) (h2 : ByF G w b m k e) :
    Calls Tryz.prog 39 #[.slice a n c, .slice b m k] w (fun x w' => x = .returned (.bool (d == e)) ∧ w' = w) := by
  have := Tryz.bytes_Equal_all a b n c m k (d.map fun x => (x.toNat : Int)) (e.map fun x => (x.toNat : Int)) w (by rw [List.length_map]; exact h.1.symm) (by rw [List.length_map]; exact h2.1.symm) (bytesIn h) (bytesIn h2)
  simp only [bytesOf_u8] at this
  exact this
def SnapP (s : Sn) (w : World) (e : Ending) (w' : World) : Prop := ∃ x0 x1 x2 x3, e = .returned (.agg #[x0, x1, x2, x3]) ∧ SnV (fun q => w.heap.size ≤ q ∧ q < w'.heap.size) w' (.agg #[x0, x1, x2, x3]) s ∧ Ext w w'
theorem snap_small {F : Nat → Prop} {w : World} {v : Value} {k : Kt} (h : KtV F w v k) (hl : k.s.d.length ≤ 1000000000000) : Calls Tryz.prog 16 #[v] w (SnapP (snapS k) w) :=
  (snap_any h).mono fun e w' ⟨x0, x1, x2, x3, h1, h2, h3⟩ => ⟨x0, x1, x2, x3, h1, h2 hl, h3⟩

end Go.Proofs.YtjapeaoebjmpnaaGreatDoor
