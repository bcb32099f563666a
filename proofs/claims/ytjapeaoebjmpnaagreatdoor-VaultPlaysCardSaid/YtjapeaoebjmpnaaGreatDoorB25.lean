/- From what a reader reads of the arguments to acts in memory. -/
import Derived.Test.YtjapeaoebjmpnaaGreatDoorB21
import Derived.Test.YtjapeaoebjmpnaaGreatDoorB23
namespace Go.Proofs.YtjapeaoebjmpnaaGreatDoor
open Go.RowKit Go.ChangeShapes Go.WideShapes Go.Deep Go.Joins
set_option linter.unusedVariables false
set_option linter.unusedSimpArgs false

section
variable {H : Type} {enc : TypeId × Value → H} {w : World}
theorem c_int : Tryz.prog.cellsOf 3 = 1 := by kernel_rfl
theorem c_snap : Tryz.prog.cellsOf 25 = 4 := by kernel_rfl
theorem c_do : Tryz.prog.cellsOf 38 = 9 := by kernel_rfl
theorem c_ints : Tryz.prog.cellsOf 22 = 1 := by kernel_rfl
theorem c_bytes : Tryz.prog.cellsOf 23 = 1 := by kernel_rfl
theorem list9 {α : Type} {l : List α} (h : l.length = 9) : ∃ c0 c1 c2 c3 c4 c5 c6 c7 c8, l = [c0, c1, c2, c3, c4, c5, c6, c7, c8] := by
  match l, h with
  | [c0, c1, c2, c3, c4, c5, c6, c7, c8], _ => exact ⟨c0, c1, c2, c3, c4, c5, c6, c7, c8, rfl⟩
theorem list6 {α : Type} {l : List α} (h : l.length = 6) : ∃ c0 c1 c2 c3 c4 c5, l = [c0, c1, c2, c3, c4, c5] := by
  match l, h with
  | [c0, c1, c2, c3, c4, c5], _ => exact ⟨c0, c1, c2, c3, c4, c5, rfl⟩
theorem read_snV {fuel : Nat} {c0 c1 c2 c3 : Value} {x : DataW H × List MemPlace} (h : DataW.trod enc Tryz.prog w 0 (fun _ => true) true fuel 25 [c0, c1, c2, c3] = some x) (hw : ∀ n ∈ x.1.weights Tryz.prog 25, n ≤ reachBytes) :
    ∃ (s : Sn) (va : Option Addr) (vn vc : Nat) (da : Option Addr) (dn dc : Nat), c0 = .int .i64 s.i ∧ c1 = .int .i64 s.t ∧ c2 = .slice va vn vc ∧ c3 = .slice da dn dc ∧ In64 s.i ∧ In64 s.t ∧ IsF (fun _ => True) w va vn vc s.vs ∧ ByF (fun _ => True) w da dn dc s.d := by
  obtain ⟨y0, y1, y2, y3, n, rfl, -, g0, g1, g2, g3⟩ := trod_struct4 Tryz.underlying25 h
  simp only [c_int, c_ints, c_bytes] at g0 g1 g2 g3
  obtain ⟨i0, e0, -, w0⟩ := DataW.trod_int Tryz.underlying3 g0
  obtain ⟨i1, e1, -, w1⟩ := DataW.trod_int Tryz.underlying3 g1
  obtain ⟨va, vn, vc, l, e2, hl⟩ := read_ints Tryz.underlying22 Tryz.underlying3 c_int (by kernel_rfl) g2 (fun q hq => hw q (by
    simp only [DataW.weights, Tryz.underlying25, List.map_cons, List.map_nil, DataW.weightsEach, List.mem_append]
    exact .inr (.inr (.inl hq))))
  obtain ⟨da, dn, dc, d, e3, hd⟩ := read_bytes Tryz.underlying23 Tryz.underlying5 (by kernel_rfl) (by kernel_rfl) g3 (fun q hq => hw q (by
    simp only [DataW.weights, Tryz.underlying25, List.map_cons, List.map_nil, DataW.weightsEach, List.mem_append]
    exact .inr (.inr (.inr (.inl hq)))))
  simp only [List.drop_succ_cons, List.drop_zero, List.take_succ_cons, List.take_zero, List.cons.injEq, and_true] at e0 e1 e2 e3
  exact ⟨⟨i0, i1, l, d⟩, va, vn, vc, da, dn, dc, e0, e1, e2, e3, wf_i64_bounds w0, wf_i64_bounds w1, hl, hd⟩
theorem read_kt {fuel : Nat} {cs : List Value} {x : DataW H × List MemPlace} (h : DataW.trod enc Tryz.prog w 0 (fun _ => true) true fuel 38 cs = some x) (hw : ∀ n ∈ x.1.weights Tryz.prog 38, n ≤ reachBytes) :
    ∃ (k : Kt) (va : Option Addr) (vn vc : Nat) (da : Option Addr) (dn dc : Nat), cs = [.int .i64 k.op, .int .i64 k.s.i, .int .i64 k.s.t, .slice va vn vc, .slice da dn dc, .int .i64 k.size, .int .i64 k.n, .int .i64 k.keep, .int .i64 k.tear] ∧
      (In64 k.op ∧ In64 k.s.i ∧ In64 k.s.t ∧ In64 k.size ∧ In64 k.n ∧ In64 k.keep ∧ In64 k.tear) ∧ IsF (fun _ => True) w va vn vc k.s.vs ∧ ByF (fun _ => True) w da dn dc k.s.d := by
  obtain ⟨xs, n, -, rfl, hl, hlen, hf⟩ := DataW.trod_struct Tryz.underlying38 h
  rw [c_do] at hl
  obtain ⟨c0, c1, c2, c3, c4, c5, c6, c7, c8, rfl⟩ := list9 hl
  obtain ⟨y0, y1, y2, y3, y4, y5, rfl⟩ := list6 (hlen.trans rfl)
  have g0 : DataW.trod enc Tryz.prog w 0 (fun _ => true) true n 3 (List.take (Tryz.prog.cellsOf 3) (List.drop 0 [c0, c1, c2, c3, c4, c5, c6, c7, c8])) = some y0 := hf 0 _ rfl
  have g1 : DataW.trod enc Tryz.prog w 0 (fun _ => true) true n 25 (List.take (Tryz.prog.cellsOf 25) (List.drop 1 [c0, c1, c2, c3, c4, c5, c6, c7, c8])) = some y1 := hf 1 _ rfl
  have g2 : DataW.trod enc Tryz.prog w 0 (fun _ => true) true n 3 (List.take (Tryz.prog.cellsOf 3) (List.drop 5 [c0, c1, c2, c3, c4, c5, c6, c7, c8])) = some y2 := hf 2 _ rfl
  have g3 : DataW.trod enc Tryz.prog w 0 (fun _ => true) true n 3 (List.take (Tryz.prog.cellsOf 3) (List.drop 6 [c0, c1, c2, c3, c4, c5, c6, c7, c8])) = some y3 := hf 3 _ rfl
  have g4 : DataW.trod enc Tryz.prog w 0 (fun _ => true) true n 3 (List.take (Tryz.prog.cellsOf 3) (List.drop 7 [c0, c1, c2, c3, c4, c5, c6, c7, c8])) = some y4 := hf 4 _ rfl
  have g5 : DataW.trod enc Tryz.prog w 0 (fun _ => true) true n 3 (List.take (Tryz.prog.cellsOf 3) (List.drop 8 [c0, c1, c2, c3, c4, c5, c6, c7, c8])) = some y5 := hf 5 _ rfl
  rw [c_int] at g0 g2 g3 g4 g5
  rw [c_snap] at g1
  obtain ⟨i0, e0, -, w0⟩ := DataW.trod_int Tryz.underlying3 g0
  obtain ⟨i2, e2, -, w2⟩ := DataW.trod_int Tryz.underlying3 g2
  obtain ⟨i3, e3, -, w3⟩ := DataW.trod_int Tryz.underlying3 g3
  obtain ⟨i4, e4, -, w4⟩ := DataW.trod_int Tryz.underlying3 g4
  obtain ⟨i5, e5, -, w5⟩ := DataW.trod_int Tryz.underlying3 g5
  simp only [List.drop_succ_cons, List.drop_zero, List.take_succ_cons, List.take_zero, List.cons.injEq, and_true] at e0 g1 e2 e3 e4 e5
  obtain ⟨s, va, vn, vc, da, dn, dc, rfl, rfl, rfl, rfl, h1, h2, h3, h4⟩ := read_snV g1 (fun q hq => hw q (by
    simp only [DataW.weights, Tryz.underlying38, List.map_cons, List.map_nil, DataW.weightsEach, List.mem_append]
    exact .inr (.inl hq)))
  subst e0; subst e2; subst e3; subst e4; subst e5
  exact ⟨⟨i0, s, i2, i3, i4, i5⟩, va, vn, vc, da, dn, dc, rfl, ⟨wf_i64_bounds w0, h1, h2, wf_i64_bounds w2, wf_i64_bounds w3, wf_i64_bounds w4, wf_i64_bounds w5⟩, h3, h4⟩
theorem read_dosV {fuel : Nat} {cs : List Value} {x : DataW H × List MemPlace} (h : DataW.trod enc Tryz.prog w 0 (fun _ => true) true fuel 31 cs = some x) (hw : ∀ n ∈ x.1.weights Tryz.prog 31, n ≤ reachBytes) :
    ∃ a n c l, cs = [.slice a n c] ∧ KtsF (fun _ => True) w a n c l := by
  rcases open_slice Tryz.underlying31 h with ⟨rfl, -⟩ | ⟨a, len, cap, m, n, D, Pl, rfl, -, hl, hm, hmm, rfl, hi⟩
  · exact ⟨none, 0, 0, [], rfl, KtsF.nil_ _ _⟩
  simp only [if_true] at hmm
  subst hmm
  rw [c_do] at hi
  have hD : ∀ i, i < len → ∀ q ∈ (D i).weights Tryz.prog 38, q ≤ reachBytes := by
    intro i hil q hq
    refine hw q ?_
    simp only [DataW.weights, Tryz.underlying31, List.mem_cons, List.mem_append]
    exact .inr (.inl (weights_all (List.mem_map.2 ⟨i, List.mem_range.2 hil, rfl⟩) q hq))
  have hsp : 0 < m → a.spot = none := fun h0 => by
    obtain ⟨cs', hcs, -⟩ := hi 0 h0
    obtain ⟨-, hlen, hcell⟩ := World.cells?_some hcs
    have h3 := hcell 0 (by omega)
    rw [List.getElem?_eq_getElem (by omega)] at h3
    have := spot_of_cell h3
    unfold Addr.add at this
    simpa using this
  have hval : ∀ i, i < len → ∃ e : Kt, ∀ b o, a = ⟨b, o, none⟩ → KtAt (fun _ => True) w b (o + i * 9) e := by
    intro i hil
    obtain ⟨cs', hcs, htr⟩ := hi i (by omega)
    obtain ⟨-, hlen, hcell⟩ := World.cells?_some hcs
    obtain ⟨k, va, vn, vc, da, dn, dc, rfl, h1, h2, h3⟩ := read_kt htr (hD i hil)
    refine ⟨k, fun b o ha => ?_⟩
    subst ha
    have cell : ∀ j, j < 9 → w.cell? ⟨b, o + i * 9 + j, none⟩ = [Value.int .i64 k.op, .int .i64 k.s.i, .int .i64 k.s.t, .slice va vn vc, .slice da dn dc, .int .i64 k.size, .int .i64 k.n, .int .i64 k.keep, .int .i64 k.tear][j]? := by
      intro j hj
      have := hcell j hj
      rw [add_lit, add_lit] at this
      exact this
    exact ⟨va, vn, vc, da, dn, dc, cell 0 (by omega), cell 1 (by omega), cell 2 (by omega), cell 3 (by omega), cell 4 (by omega), cell 5 (by omega), cell 6 (by omega), cell 7 (by omega), cell 8 (by omega), h1, h2, h3⟩
  refine ⟨some a, len, m, (List.range len).map fun i => if h : i < len then Classical.choose (hval i h) else ⟨0, sn0, 0, 0, 0, 0⟩, rfl, by simp, hl, hm, (fun e => by cases e), fun p hp => ?_⟩
  cases hp
  refine ⟨hsp, fun k hk => ⟨trivial, ?_⟩⟩
  have hk' : k < len := by simpa using hk
  simp only [List.getElem_map, List.getElem_range, dif_pos hk']
  obtain ⟨b, o, s⟩ := a
  have hs : s = none := hsp (by omega)
  subst hs
  exact Classical.choose_spec (hval k hk') b o rfl
end
end Go.Proofs.YtjapeaoebjmpnaaGreatDoor

/- One act handed in by value. -/
namespace Go.Proofs.YtjapeaoebjmpnaaGreatDoor
open Go.RowKit Go.ChangeShapes Go.WideShapes Go.Deep Go.Joins
set_option linter.unusedVariables false
set_option linter.unusedSimpArgs false
section
variable {H : Type} {enc : TypeId × Value → H} {w : World}
end
end Go.Proofs.YtjapeaoebjmpnaaGreatDoor

/- How long a list of acts may be that is handed in. -/
namespace Go.Proofs.YtjapeaoebjmpnaaGreatDoor
open Go.RowKit Go.ChangeShapes Go.WideShapes Go.Deep Go.Joins
set_option linter.unusedVariables false
set_option linter.unusedSimpArgs false
section
variable {H : Type} {enc : TypeId × Value → H} {w : World}
theorem read_dosN {fuel : Nat} {a : Option Addr} {n c : Nat} {x : DataW H × List MemPlace} (h : DataW.trod enc Tryz.prog w 0 (fun _ => true) true fuel 31 [.slice a n c] = some x) (hw : ∀ n ∈ x.1.weights Tryz.prog 31, n ≤ reachBytes) :
    c * 104 ≤ 140737488351232 := by
  rcases open_slice Tryz.underlying31 h with ⟨e, -⟩ | ⟨a', len, cap, m, k, D, Pl, e, -, hl, hm, hmm, hx, hi⟩
  · simp only [List.cons.injEq, Value.slice.injEq, and_true] at e
    obtain ⟨-, -, rfl⟩ := e
    omega
  simp only [if_true] at hmm
  subst hmm
  simp only [List.cons.injEq, Value.slice.injEq, and_true] at e
  obtain ⟨rfl, rfl, rfl⟩ := e
  have hb : Tryz.prog.bytesOf 38 = 104 := by kernel_rfl
  have := hw (((((List.range n).map D).length + ((List.range (c - n)).map fun j => D (n + j)).length)) * Tryz.prog.bytesOf 38) (by rw [hx]; simp [DataW.weights, Tryz.underlying31])
  rw [hb] at this
  simp only [List.length_map, List.length_range] at this
  unfold reachBytes at this
  omega
end
end Go.Proofs.YtjapeaoebjmpnaaGreatDoor
