/- How long a list of acts may be that is handed in. -/
import Derived.Test.YtjapeaoebjmpnaaGreatDoorBVread3
namespace Go.Proofs.YtjapeaoebjmpnaaGreatDoor
open Go.RowKit Go.ChangeShapes Go.WideShapes Go.Deep Go.Joins
set_option linter.unusedVariables false
set_option linter.unusedSimpArgs false
section
variable {H : Type} {enc : TypeId × Value → H} {w : World}
theorem read_dosN {fuel : Nat} {a : Option Addr} {n c : Nat} {x : DataW H × List MemPlace} (h : DataW.trod enc Tryz.prog w 0 (fun _ => true) true fuel 31 [.slice a n c] = some x) (hw : ∀ n ∈ x.1.weights Tryz.prog 31, n ≤ reachBytes) :
    c * 104 ≤ 140737488351232 := by
  rcases open_slice Tryz.underlying31 h with ⟨e, -⟩ | ⟨a', len, cap, m, k, D, Pl, e, -, hl, hm, hmm, hx, hi⟩
  · simp only [List.cons.injEq, Value.slice.injEq, and_true] at e
    obtain ⟨-, -, rfl⟩ := e
    omega
  · simp only [if_true] at hmm
    subst hmm
    simp only [List.cons.injEq, Value.slice.injEq, and_true] at e
    obtain ⟨rfl, rfl, rfl⟩ := e
    have hb : Tryz.prog.bytesOf 38 = 104 := by kernel_rfl
    have := hw (((((List.range n).map D).length + ((List.range (c - n)).map fun j => D (n + j)).length)) * Tryz.prog.bytesOf 38) (by rw [hx]; simp [DataW.weights, Tryz.underlying31])
    rw [hb] at this
    simp only [List.length_map, List.length_range] at this
    unfold reachBytes at this
    omega
end
end Go.Proofs.YtjapeaoebjmpnaaGreatDoor
