/- One act handed in by value. -/
import Derived.Test.YtjapeaoebjmpnaaGreatDoorBVread2
namespace Go.Proofs.YtjapeaoebjmpnaaGreatDoor
open Go.RowKit Go.ChangeShapes Go.WideShapes Go.Deep Go.Joins
set_option linter.unusedVariables false
set_option linter.unusedSimpArgs false
section
variable {H : Type} {enc : TypeId × Value → H} {w : World}
set_option maxRecDepth 100000 in
theorem read_doV {r : Reach} {b0 : Nat} {v : Value} {d : DataW H} {p : List MemPlace} (hok : Value.okWide Tryz.prog w r b0 38 v) (h : DataW.Trod enc Tryz.prog w 0 (fun _ => true) true 38 v d p) (hw : ∀ n ∈ d.weights Tryz.prog 38, n ≤ reachBytes) :
    ∃ y, KtV (fun _ => True) w v y := by
  obtain ⟨cs, rfl, hsz⟩ := okWide_struct Tryz.underlying38 hok
  obtain ⟨fuel, hf⟩ := h
  obtain ⟨k, va, vn, vc, da, dn, dc, e, ⟨h1, h2, h3, h4, h5, h6, h7⟩, h8, h9⟩ := read_kt (x := (d, p)) hf hw
  have e' : cs = #[.int .i64 k.op, .int .i64 k.s.i, .int .i64 k.s.t, .slice va vn vc, .slice da dn dc, .int .i64 k.size, .int .i64 k.n, .int .i64 k.keep, .int .i64 k.tear] := Array.ext' e
  subst e'
  exact ⟨k, va, vn, vc, da, dn, dc, rfl, h1, h2, h3, h4, h5, h6, h7, h8, h9⟩
end
end Go.Proofs.YtjapeaoebjmpnaaGreatDoor
