/- From what a reader reads of the arguments to entries and bytes in memory. -/
import Derived.Test.YtjapeaoebjmpnaaGreatDoorB00
import Derived.ProofKit
import Derived.SizedLaws
import Derived.Deep.Slices
import Derived.Lib.SmallJoins
import Derived.Test.YtjapeaoebjmpnaaGreatDoorRows
import Derived.Test.YtjapeaoebjmpnaaGreatDoorB08
import Derived.LaidMore
import Derived.LaidSub
import Derived.Lib.LaidTab
import Derived.Stop.Joined
namespace Go.Proofs.YtjapeaoebjmpnaaGreatDoor
open Go.RowKit Go.ChangeShapes Go.WideShapes Go.Deep Go.Joins
set_option linter.unusedVariables false
set_option linter.unusedSimpArgs false

section
variable {H : Type} {enc : TypeId × Value → H} {P : Program} {w : World}
theorem spot_of_cell {a : Addr} {v : Value} (h : w.cell? a = some v) : a.spot = none := by
  unfold World.cell? at h
  split at h
  · split at h
    · cases h
    rename_i hs
    cases hsp : a.spot with
    | none => rfl
    | some x => rw [hsp] at hs; simp at hs
  cases h

theorem read_bytes {tb te : TypeId} {fuel : Nat} {cs : List Value} {x : DataW H × List MemPlace} (ht : P.underlying tb = some (.slice te)) (he : P.underlying te = some (.int .u8)) (hc : P.cellsOf te = 1) (hby : P.bytesOf te = 1)
    (h : DataW.trod enc P w 0 (fun _ => true) true fuel tb cs = some x) (hw : ∀ n ∈ x.1.weights P tb, n ≤ reachBytes) : ∃ a n c d, cs = [.slice a n c] ∧ ByF (fun _ => True) w a n c d := by
  rcases open_slice1 ht hc h with ⟨rfl, -⟩ | ⟨a, len, cap, m, n, V, D, Pl, rfl, -, hl, hm, hmm, rfl, hi⟩
  · exact ⟨none, 0, 0, [], rfl, ByF.nil_ _ _⟩
  simp only [if_true] at hmm
  subst hmm
  have hreach : m ≤ reachBytes := by
    have := hw (((List.range len).map D).length + ((List.range (m - len)).map fun j => D (len + j)).length |> (· * P.bytesOf te)) (by simp [DataW.weights, ht])
    simp only [List.length_map, List.length_range, hby, Nat.mul_one] at this
    omega
  have hval : ∀ i, i < m → ∃ u : UInt8, V i = .int .u8 (u.toNat : Int) := by
    intro i him
    obtain ⟨q, hq, -, hwf⟩ := DataW.trod_int he (hi i him).2
    simp only [List.cons.injEq, and_true] at hq
    have hb : 0 ≤ q ∧ q < 256 := by
      simp [Lit.wf, IntKind.min, IntKind.max, IntKind.signed, IntKind.bits] at hwf
      omega
    refine ⟨UInt8.ofNat q.toNat, ?_⟩
    rw [hq]
    congr 1
    simp
    omega
  have hsp : 0 < m → a.spot = none := fun h0 => by
    have := (hi 0 h0).1
    have := spot_of_cell this
    unfold Addr.add at this
    simpa using this
  refine ⟨some a, len, m, (List.range len).map fun i => if h : i < m then Classical.choose (hval i h) else 0, rfl, by simp, hl, ⟨hm, by simp only [reachBytes] at hreach; omega⟩, (fun e => by cases e), fun p hp => ?_⟩
  cases hp
  refine ⟨hsp, fun k hk => ⟨trivial, ?_⟩⟩
  have hk' : k < len := by simpa using hk
  have hkm : k < m := by omega
  have h1 := (hi k hkm).1
  obtain ⟨b, o, s⟩ := a
  have hs : s = none := hsp (by omega)
  subst hs
  rw [add_lit] at h1
  simp only [List.getElem_map, List.getElem_range, dif_pos hkm]
  rw [← Classical.choose_spec (hval k hkm)]
  exact h1
theorem weights_all {P : Program} {te : TypeId} {l : List (DataW H)} {d : DataW H} (hd : d ∈ l) : ∀ n ∈ d.weights P te, n ∈ DataW.weightsAll P te l := by
  induction l with
  | nil => cases hd
  | cons e l ih =>
    intro n hn
    simp only [DataW.weightsAll, List.mem_append]
    cases hd with
    | head => exact .inl hn
    | tail _ h => exact .inr (ih h n hn)

theorem wf_i64_bounds {n : Int} (h : (Lit.int .i64 n).wf = true) : In64 n := by
  simp [Lit.wf, IntKind.min, IntKind.max, IntKind.signed, IntKind.bits] at h
  exact ⟨by omega, by omega⟩

end
end Go.Proofs.YtjapeaoebjmpnaaGreatDoor

/- From what a reader reads of the arguments to states in memory; the listed variables. -/
namespace Go.Proofs.YtjapeaoebjmpnaaGreatDoor
open Go.RowKit Go.ChangeShapes Go.WideShapes Go.Deep Go.Joins
set_option linter.unusedVariables false
set_option linter.unusedSimpArgs false

section
variable {H : Type} {enc : TypeId × Value → H} {P : Program} {w : World}
theorem read_ints {tb te : TypeId} {fuel : Nat} {cs : List Value} {x : DataW H × List MemPlace} (ht : P.underlying tb = some (.slice te)) (he : P.underlying te = some (.int .i64)) (hc : P.cellsOf te = 1) (hby : P.bytesOf te = 8)
    (h : DataW.trod enc P w 0 (fun _ => true) true fuel tb cs = some x) (hw : ∀ n ∈ x.1.weights P tb, n ≤ reachBytes) : ∃ a n c d, cs = [.slice a n c] ∧ IsF (fun _ => True) w a n c d := by
  rcases open_slice1 ht hc h with ⟨rfl, -⟩ | ⟨a, len, cap, m, n, V, D, Pl, rfl, -, hl, hm, hmm, rfl, hi⟩
  · exact ⟨none, 0, 0, [], rfl, IsF.nil_ _ _⟩
  simp only [if_true] at hmm
  subst hmm
  have hreach : m * 8 ≤ reachBytes := by
    have := hw ((((List.range len).map D).length + ((List.range (m - len)).map fun j => D (len + j)).length) * P.bytesOf te) (by simp [DataW.weights, ht])
    simp only [List.length_map, List.length_range, hby] at this
    have e : len + (m - len) = m := by omega
    rw [e] at this
    exact this
  have hval : ∀ i, i < m → ∃ u : Int, V i = .int .i64 u ∧ In64 u := by
    intro i him
    obtain ⟨q, hq, -, hwf⟩ := DataW.trod_int he (hi i him).2
    simp only [List.cons.injEq, and_true] at hq
    exact ⟨q, hq, wf_i64_bounds hwf⟩
  have hsp : 0 < m → a.spot = none := fun h0 => by
    have := (hi 0 h0).1
    have := spot_of_cell this
    unfold Addr.add at this
    simpa using this
  refine ⟨some a, len, m, (List.range len).map fun i => if h : i < m then Classical.choose (hval i h) else 0, rfl, by simp, hl, ⟨hm, by simp only [reachBytes] at hreach; omega⟩, (fun e => by cases e), fun x hx => ?_, fun p hp => ?_⟩
  · obtain ⟨k, hk, rfl⟩ := List.mem_map.1 hx
    have hk := List.mem_range.1 hk
    rw [dif_pos (by omega : k < m)]
    exact (Classical.choose_spec (hval k (by omega))).2
  cases hp
  refine ⟨hsp, fun k hk => ⟨trivial, ?_⟩⟩
  have hk' : k < len := by simpa using hk
  have hkm : k < m := by omega
  have h1 := (hi k hkm).1
  obtain ⟨b, o, s⟩ := a
  have hs : s = none := hsp (by omega)
  subst hs
  rw [add_lit] at h1
  simp only [List.getElem_map, List.getElem_range, dif_pos hkm]
  rw [← (Classical.choose_spec (hval k hkm)).1]
  exact h1
end
def laid3 : List (String × DataW Unit) := [("math/bits.deBruijn32tab", Rows.laid_math_bits_deBruijn32tab), ("math/bits.deBruijn64tab", Rows.laid_math_bits_deBruijn64tab), ("internal/strconv.uint64pow10", Rows.laid_internal_strconv_uint64pow10)]
theorem pow_data : (Rows.laid_internal_strconv_uint64pow10 : DataW Unit) = Lib.tabData .u64 Lib.pow10Tab := by kernel_rfl
theorem powT : ∃ t e, (Tryz.prog.globals[powG]?).map (·.type) = some t ∧ Tryz.prog.underlying t = some (.array 20 e) ∧ Tryz.prog.underlying e = some (.int .u64) ∧ Tryz.prog.cellsOf e = 1 ∧ Tryz.prog.cellsOf t = 20 :=
  ⟨218, 193, by kernel_rfl, by kernel_rfl, by kernel_rfl, by kernel_rfl, by kernel_rfl⟩
theorem tab_of_laid {W : World} (h : laidMetH Tryz.prog laid3 W) : TabP W := by
  have h2 := h.filter fun p => p.1 == "internal/strconv.uint64pow10"
  have e : laid3.filter (fun p => p.1 == "internal/strconv.uint64pow10") = [("internal/strconv.uint64pow10", Lib.tabData .u64 Lib.pow10Tab)] := by
    rw [← pow_data]; rfl
  rw [e] at h2
  rw [MakeChecks.laidMetH_plain _ _ _ (by kernel_rfl)] at h2
  obtain ⟨t, e', h3, h4, h5, h6, h7⟩ := powT
  exact Lib.tabIs_of_head powG_eq h3 h4 h5 h6 h7 h2
theorem door_met (os : Os) (args : Array Value) : laidMetH Tryz.prog laid3 ((World.doorLaid Tryz.prog 400 os).forCall (fun _ _ => 0) ⟨#[], args, []⟩).memory :=
  laidMetH_of_parts3 (fuel := 8) (laidMet_of_run' 8 (by kernel_rfl) (by kernel_rfl)) (by kernel_rfl) (by kernel_rfl)
end Go.Proofs.YtjapeaoebjmpnaaGreatDoor
