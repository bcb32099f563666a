/- From what a reader reads of the arguments to entries and bytes in memory. -/
import Derived.Test.YtikjckdoldiddaaGreatDoorC00
import Derived.ProofKit
import Derived.SizedLaws
import Derived.Deep.Slices
import Derived.Lib.SmallJoins
import Derived.Test.YtikjckdoldiddaaGreatDoorRows
import Derived.Test.YtikjckdoldiddaaGreatDoorC04
import Derived.Test.YtikjckdoldiddaaGreatDoorC11
import Derived.LaidMore
import Derived.LaidSub
import Derived.Lib.LaidTab
import Derived.Stop.Joined
namespace Go.Proofs.YtikjckdoldiddaaGreatDoor
open Go.RowKit Go.ChangeShapes Go.WideShapes Go.Deep Go.Joins
set_option linter.unusedVariables false
set_option linter.unusedSimpArgs false

section
variable {H : Type} {enc : TypeId × Value → H} {P : Program} {w : World}
theorem spot_of_cell {a : Addr} {v : Value} (h : w.cell? a = some v) : a.spot = none := by
  unfold World.cell? at h
  split at h
  · split at h
    · cases h
    rename_i hs
    cases hsp : a.spot with
    | none => rfl
    | some x => rw [hsp] at hs; simp at hs
  cases h

theorem read_bytes {tb te : TypeId} {fuel : Nat} {cs : List Value} {x : DataW H × List MemPlace} (ht : P.underlying tb = some (.slice te)) (he : P.underlying te = some (.int .u8)) (hc : P.cellsOf te = 1) (hby : P.bytesOf te = 1)
    (h : DataW.trod enc P w 0 (fun _ => true) true fuel tb cs = some x) (hw : ∀ n ∈ x.1.weights P tb, n ≤ reachBytes) : ∃ a n c d, cs = [.slice a n c] ∧ ByF (fun _ => True) w a n c d := by
  rcases open_slice1 ht hc h with ⟨rfl, -⟩ | ⟨a, len, cap, m, n, V, D, Pl, rfl, -, hl, hm, hmm, rfl, hi⟩
  · exact ⟨none, 0, 0, [], rfl, ByF.nil_ _ _⟩
  simp only [if_true] at hmm
  subst hmm
  have hreach : m ≤ reachBytes := by
    have := hw (((List.range len).map D).length + ((List.range (m - len)).map fun j => D (len + j)).length |> (· * P.bytesOf te)) (by simp [DataW.weights, ht])
    simp only [List.length_map, List.length_range, hby, Nat.mul_one] at this
    omega
  have hval : ∀ i, i < m → ∃ u : UInt8, V i = .int .u8 (u.toNat : Int) := by
    intro i him
    obtain ⟨q, hq, -, hwf⟩ := DataW.trod_int he (hi i him).2
    simp only [List.cons.injEq, and_true] at hq
    have hb : 0 ≤ q ∧ q < 256 := by
      simp [Lit.wf, IntKind.min, IntKind.max, IntKind.signed, IntKind.bits] at hwf
      omega
    refine ⟨UInt8.ofNat q.toNat, ?_⟩
    rw [hq]
    congr 1
    simp
    omega
  have hsp : 0 < m → a.spot = none := fun h0 => by
    have := (hi 0 h0).1
    have := spot_of_cell this
    unfold Addr.add at this
    simpa using this
  refine ⟨some a, len, m, (List.range len).map fun i => if h : i < m then Classical.choose (hval i h) else 0, rfl, by simp, hl, ⟨hm, by simp only [reachBytes] at hreach; omega⟩, (fun e => by cases e), fun p hp => ?_⟩
  cases hp
  refine ⟨hsp, fun k hk => ⟨trivial, ?_⟩⟩
  have hk' : k < len := by simpa using hk
  have hkm : k < m := by omega
  have h1 := (hi k hkm).1
  obtain ⟨b, o, s⟩ := a
  have hs : s = none := hsp (by omega)
  subst hs
  rw [add_lit] at h1
  simp only [List.getElem_map, List.getElem_range, dif_pos hkm]
  rw [← Classical.choose_spec (hval k hkm)]
  exact h1
theorem weights_all {P : Program} {te : TypeId} {l : List (DataW H)} {d : DataW H} (hd : d ∈ l) : ∀ n ∈ d.weights P te, n ∈ DataW.weightsAll P te l := by
  induction l with
  | nil => cases hd
  | cons e l ih =>
    intro n hn
    simp only [DataW.weightsAll, List.mem_append]
    cases hd with
    | head => exact .inl hn
    | tail _ h => exact .inr (ih h n hn)

theorem wf_i64_bounds {n : Int} (h : (Lit.int .i64 n).wf = true) : In64 n := by
  simp [Lit.wf, IntKind.min, IntKind.max, IntKind.signed, IntKind.bits] at h
  exact ⟨by omega, by omega⟩

theorem read_ents {ts tn tb te : TypeId} {f0 f1 f2 : Field} {fuel : Nat} {cs : List Value} {x : DataW H × List MemPlace} (hs : P.underlying ts = some (.slice tn)) (hn : P.underlying tn = some (.struct #[f0, f1, f2]))
    (h0 : P.underlying f0.type = some (.int .i64)) (h1 : P.underlying f1.type = some (.int .i64)) (h2 : f2.type = tb) (hone : oneCellFields P #[f0, f1, f2] = true)
    (ht : P.underlying tb = some (.slice te)) (he : P.underlying te = some (.int .u8)) (hc : P.cellsOf te = 1) (hcn : P.cellsOf tn = 3) (hby : P.bytesOf te = 1) (hbn : P.bytesOf tn = 40)
    (h : DataW.trod enc P w 0 (fun _ => true) true fuel ts cs = some x) (hw : ∀ n ∈ x.1.weights P ts, n ≤ reachBytes) : ∃ a n c l, cs = [.slice a n c] ∧ EsF (fun _ => True) w a n c l := by
  rcases open_slice hs h with ⟨rfl, -⟩ | ⟨a, len, cap, m, n, D, Pl, rfl, -, hl, hm, hmm, rfl, hi⟩
  · exact ⟨none, 0, 0, [], rfl, EsF.nil_ _ _⟩
  simp only [if_true] at hmm
  subst hmm
  rw [hcn] at hi
  have hreach : m * 40 ≤ reachBytes := by
    have := hw ((((List.range len).map D).length + ((List.range (m - len)).map fun j => D (len + j)).length) * P.bytesOf tn) (by simp [DataW.weights, hs])
    simp only [List.length_map, List.length_range, hbn] at this
    have e : len + (m - len) = m := by omega
    rw [e] at this
    exact this
  have hD : ∀ i, i < len → ∀ q ∈ (D i).weights P tn, q ≤ reachBytes := by
    intro i hil q hq
    refine hw q ?_
    simp only [DataW.weights, hs, List.mem_cons, List.mem_append]
    exact .inr (.inl (weights_all (List.mem_map.2 ⟨i, List.mem_range.2 hil, rfl⟩) q hq))
  have hsp : 0 < m → a.spot = none := fun h0 => by
    obtain ⟨cs', hcs, -⟩ := hi 0 h0
    obtain ⟨-, hlen, hcell⟩ := World.cells?_some hcs
    have h3 := hcell 0 (by omega)
    rw [List.getElem?_eq_getElem (by omega)] at h3
    have := spot_of_cell h3
    unfold Addr.add at this
    simpa using this
  have hval : ∀ i, i < len → ∃ e : Ent, ∀ b o, a = ⟨b, o, none⟩ → EnF (fun _ => True) w b (o + i * 3) e := by
    intro i hil
    obtain ⟨cs', hcs, htr⟩ := hi i (by omega)
    obtain ⟨-, hlen, hcell⟩ := World.cells?_some hcs
    obtain ⟨y0, y1, y2, n', hd, hlc, g0, g1, g2⟩ := trod_struct3 hn htr
    obtain ⟨o0, k0⟩ := hone_of hone 0 f0 rfl
    obtain ⟨o1, k1⟩ := hone_of hone 1 f1 rfl
    obtain ⟨o2, k2⟩ := hone_of hone 2 f2 rfl
    rw [o0, k0] at g0
    rw [o1, k1] at g1
    rw [o2, k2] at g2
    have e3 : ∃ c0 c1 c2, cs' = [c0, c1, c2] := by
      match cs', hlen with
      | [c0, c1, c2], _ => exact ⟨c0, c1, c2, rfl⟩
    obtain ⟨c0, c1, c2, rfl⟩ := e3
    obtain ⟨q0, hq0, -, wf0⟩ := DataW.trod_int h0 (by simpa using g0)
    obtain ⟨q1, hq1, -, wf1⟩ := DataW.trod_int h1 (by simpa using g1)
    simp only [List.cons.injEq, and_true] at hq0 hq1
    subst hq0; subst hq1
    rw [h2] at g2
    have hw2 : ∀ q ∈ y2.1.weights P tb, q ≤ reachBytes := by
      intro q hq
      refine hD i hil q ?_
      have hDi : D i = .agg [y0.1, y1.1, y2.1] := by
        have := congrArg Prod.fst hd
        simpa using this
      rw [hDi]
      simp only [DataW.weights, hn]
      simp only [List.map_cons, List.map_nil, DataW.weightsEach, List.mem_append, List.append_nil, h2]
      exact .inr (.inr hq)
    obtain ⟨a2, n2, c2', d2, hcs2, hby2⟩ := read_bytes ht he hc hby (by simpa using g2) hw2
    simp only [List.cons.injEq, and_true] at hcs2
    subst hcs2
    refine ⟨⟨q0, q1, d2⟩, fun b o ha => ?_⟩
    subst ha
    have cell : ∀ j, j < 3 → w.cell? ⟨b, o + i * 3 + j, none⟩ = [Value.int .i64 q0, .int .i64 q1, .slice a2 n2 c2'][j]? := by
      intro j hj
      have := hcell j hj
      rw [add_lit, add_lit] at this
      exact this
    exact ⟨wf_i64_bounds wf0, wf_i64_bounds wf1, cell 0 (by omega), cell 1 (by omega), a2, n2, c2', cell 2 (by omega), hby2⟩
  refine ⟨some a, len, m, (List.range len).map fun i => if h : i < len then Classical.choose (hval i h) else ⟨0, 0, []⟩, rfl, by simp, hl, ⟨hm, by simp only [reachBytes] at hreach; omega⟩, (fun e => by cases e), fun p hp => ?_⟩
  cases hp
  refine ⟨hsp, fun k hk => ⟨trivial, ?_⟩⟩
  have hk' : k < len := by simpa using hk
  simp only [List.getElem_map, List.getElem_range, dif_pos hk']
  obtain ⟨b, o, s⟩ := a
  have hs : s = none := hsp (by omega)
  subst hs
  exact Classical.choose_spec (hval k hk') b o rfl
end
end Go.Proofs.YtikjckdoldiddaaGreatDoor

/- From what a reader reads of the arguments to the calls in memory; the listed variables. -/
namespace Go.Proofs.YtikjckdoldiddaaGreatDoor
open Go.RowKit Go.ChangeShapes Go.WideShapes Go.Deep Go.Joins
set_option linter.unusedVariables false
set_option linter.unusedSimpArgs false

section
variable {H : Type} {enc : TypeId × Value → H} {w : World}
def laid3 : List (String × DataW Unit) := [("math/bits.deBruijn32tab", Rows.laid_math_bits_deBruijn32tab), ("math/bits.deBruijn64tab", Rows.laid_math_bits_deBruijn64tab), ("internal/strconv.uint64pow10", Rows.laid_internal_strconv_uint64pow10)]
def laid5 : List (String × DataW Unit) := laid3 ++ [("strconv.ErrRange", Rows.laid_strconv_ErrRange), ("strconv.ErrSyntax", Rows.laid_strconv_ErrSyntax)]
theorem pow_data : (Rows.laid_internal_strconv_uint64pow10 : DataW Unit) = Lib.tabData .u64 Lib.pow10Tab := by kernel_rfl
theorem powT : ∃ t e, (Tryz.prog.globals[powG]?).map (·.type) = some t ∧ Tryz.prog.underlying t = some (.array 20 e) ∧ Tryz.prog.underlying e = some (.int .u64) ∧ Tryz.prog.cellsOf e = 1 ∧ Tryz.prog.cellsOf t = 20 :=
  ⟨262, 222, by kernel_rfl, by kernel_rfl, by kernel_rfl, by kernel_rfl, by kernel_rfl⟩
theorem tab_of_one {W : World} (h : laidMetH Tryz.prog [("internal/strconv.uint64pow10", Rows.laid_internal_strconv_uint64pow10)] W) : TabP W := by
  rw [pow_data] at h
  rw [MakeChecks.laidMetH_plain _ _ _ (by kernel_rfl)] at h
  obtain ⟨t, e', h3, h4, h5, h6, h7⟩ := powT
  exact Lib.tabIs_of_head powG_eq h3 h4 h5 h6 h7 h
theorem tab_of_laid5 {W : World} (h : laidMetH Tryz.prog laid5 W) : TabP W :=
  tab_of_one (h.filter fun p => p.1 == "internal/strconv.uint64pow10")
theorem door_met5 (os : Os) (args : Array Value) : laidMetH Tryz.prog laid5 ((World.doorLaid Tryz.prog 400 os).forCall (fun _ _ => 0) ⟨#[], args, []⟩).memory :=
  laidMetH_of_parts3 (fuel := 8) (laidMet_of_run' 8 (by kernel_rfl) (by kernel_rfl)) (by kernel_rfl) (by kernel_rfl)
theorem c_int : Tryz.prog.cellsOf 3 = 1 := by kernel_rfl
theorem c_hard : Tryz.prog.cellsOf 39 = 2 := by kernel_rfl
theorem c_do : Tryz.prog.cellsOf 51 = 8 := by kernel_rfl
theorem c_ents : Tryz.prog.cellsOf 40 = 1 := by kernel_rfl
theorem list8 {α : Type} {l : List α} (h : l.length = 8) : ∃ c0 c1 c2 c3 c4 c5 c6 c7, l = [c0, c1, c2, c3, c4, c5, c6, c7] := by
  match l, h with
  | [c0, c1, c2, c3, c4, c5, c6, c7], _ => exact ⟨c0, c1, c2, c3, c4, c5, c6, c7, rfl⟩
theorem list7 {α : Type} {l : List α} (h : l.length = 7) : ∃ c0 c1 c2 c3 c4 c5 c6, l = [c0, c1, c2, c3, c4, c5, c6] := by
  match l, h with
  | [c0, c1, c2, c3, c4, c5, c6], _ => exact ⟨c0, c1, c2, c3, c4, c5, c6, rfl⟩
/-- A call's eight cells. -/
theorem read_doC {fuel : Nat} {cs : List Value} {x : DataW H × List MemPlace} (h : DataW.trod enc Tryz.prog w 0 (fun _ => true) true fuel 51 cs = some x) (hw : ∀ n ∈ x.1.weights Tryz.prog 51, n ≤ reachBytes) :
    ∃ (d : DoW) (a : Option Addr) (n c : Nat), cs = [.int .i64 d.o, .slice a n c, .int .i64 d.ht, .int .i64 d.hv, .int .i64 d.n, .int .i64 d.t, .int .i64 d.kp, .int .i64 d.tr] ∧
      (In64 d.o ∧ In64 d.ht ∧ In64 d.hv ∧ In64 d.n ∧ In64 d.t ∧ In64 d.kp ∧ In64 d.tr) ∧ EsF (fun _ => True) w a n c d.l := by
  obtain ⟨xs, n, -, rfl, hl, hlen, hf⟩ := DataW.trod_struct Tryz.underlying51 h
  rw [c_do] at hl
  obtain ⟨c0, c1, c2, c3, c4, c5, c6, c7, rfl⟩ := list8 hl
  obtain ⟨y0, y1, y2, y3, y4, y5, y6, rfl⟩ := list7 (hlen.trans rfl)
  have g0 : DataW.trod enc Tryz.prog w 0 (fun _ => true) true n 3 (List.take (Tryz.prog.cellsOf 3) (List.drop 0 [c0, c1, c2, c3, c4, c5, c6, c7])) = some y0 := hf 0 _ rfl
  have g1 : DataW.trod enc Tryz.prog w 0 (fun _ => true) true n 40 (List.take (Tryz.prog.cellsOf 40) (List.drop 1 [c0, c1, c2, c3, c4, c5, c6, c7])) = some y1 := hf 1 _ rfl
  have g2 : DataW.trod enc Tryz.prog w 0 (fun _ => true) true n 39 (List.take (Tryz.prog.cellsOf 39) (List.drop 2 [c0, c1, c2, c3, c4, c5, c6, c7])) = some y2 := hf 2 _ rfl
  have g3 : DataW.trod enc Tryz.prog w 0 (fun _ => true) true n 3 (List.take (Tryz.prog.cellsOf 3) (List.drop 4 [c0, c1, c2, c3, c4, c5, c6, c7])) = some y3 := hf 3 _ rfl
  have g4 : DataW.trod enc Tryz.prog w 0 (fun _ => true) true n 3 (List.take (Tryz.prog.cellsOf 3) (List.drop 5 [c0, c1, c2, c3, c4, c5, c6, c7])) = some y4 := hf 4 _ rfl
  have g5 : DataW.trod enc Tryz.prog w 0 (fun _ => true) true n 3 (List.take (Tryz.prog.cellsOf 3) (List.drop 6 [c0, c1, c2, c3, c4, c5, c6, c7])) = some y5 := hf 5 _ rfl
  have g6 : DataW.trod enc Tryz.prog w 0 (fun _ => true) true n 3 (List.take (Tryz.prog.cellsOf 3) (List.drop 7 [c0, c1, c2, c3, c4, c5, c6, c7])) = some y6 := hf 6 _ rfl
  rw [c_int] at g0 g3 g4 g5 g6
  rw [c_ents] at g1
  rw [c_hard] at g2
  obtain ⟨z0, z1, n2, -, -, k0, k1⟩ := trod_struct2 Tryz.underlying39 g2
  rw [show Tryz.prog.cellsOf 3 = 1 from c_int] at k0 k1
  obtain ⟨i0, e0, -, w0⟩ := DataW.trod_int Tryz.underlying3 g0
  obtain ⟨i2, e2, -, w2⟩ := DataW.trod_int Tryz.underlying3 k0
  obtain ⟨i2', e2', -, w2'⟩ := DataW.trod_int Tryz.underlying3 k1
  obtain ⟨i3, e3, -, w3⟩ := DataW.trod_int Tryz.underlying3 g3
  obtain ⟨i4, e4, -, w4⟩ := DataW.trod_int Tryz.underlying3 g4
  obtain ⟨i5, e5, -, w5⟩ := DataW.trod_int Tryz.underlying3 g5
  obtain ⟨i6, e6, -, w6⟩ := DataW.trod_int Tryz.underlying3 g6
  obtain ⟨a, m, c, l, e1, hl1⟩ := read_ents (ts := 40) (tn := 46) (tb := 37) (te := 5) Tryz.underlying40 Tryz.underlying46 Tryz.underlying3 Tryz.underlying3 rfl (by kernel_rfl) Tryz.underlying37 Tryz.underlying5 (by kernel_rfl) (by kernel_rfl) (by kernel_rfl) (by kernel_rfl) g1 (fun q hq => hw q (by
    simp only [DataW.weights, Tryz.underlying51, List.map_cons, List.map_nil, DataW.weightsEach, List.mem_append]
    exact .inr (.inl hq)))
  simp only [List.drop_succ_cons, List.drop_zero, List.take_succ_cons, List.take_zero, List.cons.injEq, and_true] at e0 e1 e2 e2' e3 e4 e5 e6
  subst e0; subst e1; subst e2; subst e2'; subst e3; subst e4; subst e5; subst e6
  exact ⟨⟨i0, l, i2, i2', i3, i4, i5, i6⟩, a, m, c, rfl, ⟨wf_i64_bounds w0, wf_i64_bounds w2, wf_i64_bounds w2', wf_i64_bounds w3, wf_i64_bounds w4, wf_i64_bounds w5, wf_i64_bounds w6⟩, hl1⟩
theorem read_dosW {fuel : Nat} {cs : List Value} {x : DataW H × List MemPlace} (h : DataW.trod enc Tryz.prog w 0 (fun _ => true) true fuel 22 cs = some x) (hw : ∀ n ∈ x.1.weights Tryz.prog 22, n ≤ reachBytes) :
    ∃ a n c D, cs = [.slice a n c] ∧ DosF (fun _ => True) w a n c D := by
  rcases open_slice Tryz.underlying22 h with ⟨rfl, -⟩ | ⟨a, len, cap, m, n, D, Pl, rfl, -, hl, hm, hmm, rfl, hi⟩
  · exact ⟨none, 0, 0, [], rfl, rfl, Nat.le_refl _, by omega, fun _ => rfl, fun p hp => by cases hp⟩
  simp only [if_true] at hmm
  subst hmm
  rw [c_do] at hi
  have hb : 1 ≤ Tryz.prog.bytesOf 51 := by decide +kernel
  have hreach : m ≤ reachBytes := by
    have := hw ((((List.range len).map D).length + ((List.range (m - len)).map fun j => D (len + j)).length) * Tryz.prog.bytesOf 51) (by simp [DataW.weights, Tryz.underlying22])
    simp only [List.length_map, List.length_range] at this
    have e : len + (m - len) = m := by omega
    rw [e] at this
    exact Nat.le_trans (Nat.le_mul_of_pos_right m hb) this
  have hD : ∀ i, i < len → ∀ q ∈ (D i).weights Tryz.prog 51, q ≤ reachBytes := by
    intro i hil q hq
    refine hw q ?_
    simp only [DataW.weights, Tryz.underlying22, List.mem_cons, List.mem_append]
    exact .inr (.inl (weights_all (List.mem_map.2 ⟨i, List.mem_range.2 hil, rfl⟩) q hq))
  have hsp : 0 < m → a.spot = none := fun h0 => by
    obtain ⟨cs', hcs, -⟩ := hi 0 h0
    obtain ⟨-, hlen, hcell⟩ := World.cells?_some hcs
    have h3 := hcell 0 (by omega)
    rw [List.getElem?_eq_getElem (by omega)] at h3
    have := spot_of_cell h3
    unfold Addr.add at this
    simpa using this
  have hval : ∀ i, i < len → ∃ e : DoW, ∀ b o, a = ⟨b, o, none⟩ → DoF (fun _ => True) w b (o + i * 8) e := by
    intro i hil
    obtain ⟨cs', hcs, htr⟩ := hi i (by omega)
    obtain ⟨-, hlen, hcell⟩ := World.cells?_some hcs
    obtain ⟨d, va, vn, vc, rfl, h1, h2⟩ := read_doC htr (hD i hil)
    refine ⟨d, fun b o ha => ?_⟩
    subst ha
    have cell : ∀ j, j < 8 → w.cell? ⟨b, o + i * 8 + j, none⟩ = [Value.int .i64 d.o, .slice va vn vc, .int .i64 d.ht, .int .i64 d.hv, .int .i64 d.n, .int .i64 d.t, .int .i64 d.kp, .int .i64 d.tr][j]? := by
      intro j hj
      have := hcell j hj
      rw [add_lit, add_lit] at this
      exact this
    exact ⟨h1, cell 0 (by omega), ⟨va, vn, vc, cell 1 (by omega), h2⟩, cell 2 (by omega), cell 3 (by omega), cell 4 (by omega), cell 5 (by omega), cell 6 (by omega), cell 7 (by omega)⟩
  refine ⟨some a, len, m, (List.range len).map fun i => if h : i < len then Classical.choose (hval i h) else ⟨0, [], 0, 0, 0, 0, 0, 0⟩, rfl, by simp, hl, by simp only [reachBytes] at hreach; omega, (fun e => by cases e), fun p hp => ?_⟩
  cases hp
  refine ⟨fun hpos => hsp (by omega), fun k hk => ?_⟩
  have hk' : k < len := by simpa using hk
  simp only [List.getElem_map, List.getElem_range, dif_pos hk']
  obtain ⟨b, o, s⟩ := a
  have hs : s = none := hsp (by omega)
  subst hs
  exact ⟨trivial, Classical.choose_spec (hval k hk') b o rfl⟩
end
end Go.Proofs.YtikjckdoldiddaaGreatDoor
