/- From what a reader reads of the arguments to calls in memory. -/
import Derived.Test.YtjcmgkdlkadfmaaLread
import Derived.Test.YtjcmgkdlkadfmaaLp1
namespace Go.Proofs.Ytjcmgkdlkadfmaa
open Go.RowKit Go.ChangeShapes Go.WideShapes Go.Deep Go.Joins
set_option linter.unusedVariables false
set_option linter.unusedSimpArgs false

section
variable {H : Type} {enc : TypeId × Value → H} {P : Program} {w : World}
theorem read_dos {td tm ts tn tb te : TypeId} {d0 d1 d2 d3 f0 f1 f2 : Field} {fuel : Nat} {cs : List Value} {x : DataW H × List MemPlace} (hds : P.underlying td = some (.slice tm)) (hdn : P.underlying tm = some (.struct #[d0, d1, d2, d3]))
    (hd0 : P.underlying d0.type = some (.int .i64)) (hd1 : P.underlying d1.type = some (.int .i64)) (hd2 : P.underlying d2.type = some (.int .i64)) (hd3 : d3.type = ts) (hdone : oneCellFields P #[d0, d1, d2, d3] = true) (hdc : P.cellsOf tm = 4) (hdb : P.bytesOf tm = 48)
    (hs : P.underlying ts = some (.slice tn)) (hn : P.underlying tn = some (.struct #[f0, f1, f2]))
    (h0 : P.underlying f0.type = some (.int .i64)) (h1 : P.underlying f1.type = some (.int .i64)) (h2 : f2.type = tb) (hone : oneCellFields P #[f0, f1, f2] = true)
    (ht : P.underlying tb = some (.slice te)) (he : P.underlying te = some (.int .u8)) (hc : P.cellsOf te = 1) (hcn : P.cellsOf tn = 3) (hby : P.bytesOf te = 1) (hbn : P.bytesOf tn = 40)
    (h : DataW.trod enc P w 0 (fun _ => true) true fuel td cs = some x) (hw : ∀ n ∈ x.1.weights P td, n ≤ reachBytes) : ∃ a n c D, cs = [.slice a n c] ∧ DosF (fun _ => True) w a n c D := by
  rcases open_slice hds h with ⟨rfl, -⟩ | ⟨a, len, cap, m, n, D, Pl, rfl, -, hl, hm, hmm, rfl, hi⟩
  · exact ⟨none, 0, 0, [], rfl, rfl, Nat.le_refl _, by omega, fun _ => rfl, fun p hp => by cases hp⟩
  · simp only [if_true] at hmm
    subst hmm
    rw [hdc] at hi
    have hreach : m * 48 ≤ reachBytes := by
      have := hw ((((List.range len).map D).length + ((List.range (m - len)).map fun j => D (len + j)).length) * P.bytesOf tm) (by simp [DataW.weights, hds])
      simp only [List.length_map, List.length_range, hdb] at this
      have e : len + (m - len) = m := by omega
      rw [e] at this
      exact this
    have hD : ∀ i, i < len → ∀ q ∈ (D i).weights P tm, q ≤ reachBytes := by
      intro i hil q hq
      refine hw q ?_
      simp only [DataW.weights, hds, List.mem_cons, List.mem_append]
      exact .inr (.inl (weights_all (List.mem_map.2 ⟨i, List.mem_range.2 hil, rfl⟩) q hq))
    have hsp : 0 < m → a.spot = none := fun h0 => by
      obtain ⟨cs', hcs, -⟩ := hi 0 h0
      obtain ⟨-, hlen, hcell⟩ := World.cells?_some hcs
      have h3 := hcell 0 (by omega)
      rw [List.getElem?_eq_getElem (by omega)] at h3
      have := spot_of_cell h3
      unfold Addr.add at this
      simpa using this
    have hval : ∀ i, i < len → ∃ e : DoS, ∀ b o, a = ⟨b, o, none⟩ → DoF (fun _ => True) w b (o + i * 4) e := by
      intro i hil
      obtain ⟨cs', hcs, htr⟩ := hi i (by omega)
      obtain ⟨-, hlen, hcell⟩ := World.cells?_some hcs
      obtain ⟨y0, y1, y2, y3, n', hd, hlc, g0, g1, g2, g3⟩ := trod_struct4 hdn htr
      obtain ⟨o0, k0⟩ := hone_of hdone 0 d0 rfl
      obtain ⟨o1, k1⟩ := hone_of hdone 1 d1 rfl
      obtain ⟨o2, k2⟩ := hone_of hdone 2 d2 rfl
      obtain ⟨o3, k3⟩ := hone_of hdone 3 d3 rfl
      rw [o0, k0] at g0
      rw [o1, k1] at g1
      rw [o2, k2] at g2
      rw [o3, k3] at g3
      have e3 : ∃ c0 c1 c2 c3, cs' = [c0, c1, c2, c3] := by
        match cs', hlen with
        | [c0, c1, c2, c3], _ => exact ⟨c0, c1, c2, c3, rfl⟩
      obtain ⟨c0, c1, c2, c3, rfl⟩ := e3
      obtain ⟨q0, hq0, -, wf0⟩ := DataW.trod_int hd0 (by simpa using g0)
      obtain ⟨q1, hq1, -, wf1⟩ := DataW.trod_int hd1 (by simpa using g1)
      obtain ⟨q2, hq2, -, wf2⟩ := DataW.trod_int hd2 (by simpa using g2)
      simp only [List.cons.injEq, and_true] at hq0 hq1 hq2
      subst hq0; subst hq1; subst hq2
      rw [hd3] at g3
      have hw3 : ∀ q ∈ y3.1.weights P ts, q ≤ reachBytes := by
        intro q hq
        refine hD i hil q ?_
        have hDi : D i = .agg [y0.1, y1.1, y2.1, y3.1] := by
          have := congrArg Prod.fst hd
          simpa using this
        rw [hDi]
        simp only [DataW.weights, hdn]
        simp only [List.map_cons, List.map_nil, DataW.weightsEach, List.mem_append, List.append_nil, hd3]
        exact .inr (.inr (.inr hq))
      obtain ⟨a2, n2, c2', l2, hcs2, hby2⟩ := read_ents hs hn h0 h1 h2 hone ht he hc hcn hby hbn (by simpa using g3) hw3
      simp only [List.cons.injEq, and_true] at hcs2
      subst hcs2
      refine ⟨⟨q0, q1, q2, l2⟩, fun b o ha => ?_⟩
      subst ha
      have cell : ∀ j, j < 4 → w.cell? ⟨b, o + i * 4 + j, none⟩ = [Value.int .i64 q0, .int .i64 q1, .int .i64 q2, .slice a2 n2 c2'][j]? := by
        intro j hj
        have := hcell j hj
        rw [add_lit, add_lit] at this
        exact this
      exact ⟨wf_i64_bounds wf0, wf_i64_bounds wf1, wf_i64_bounds wf2, cell 0 (by omega), cell 1 (by omega), cell 2 (by omega), a2, n2, c2', cell 3 (by omega), hby2⟩
    refine ⟨some a, len, m, (List.range len).map fun i => if h : i < len then Classical.choose (hval i h) else ⟨0, 0, 0, []⟩, rfl, by simp, hl, by simp only [reachBytes] at hreach; omega, (fun e => by cases e), fun p hp => ?_⟩
    cases hp
    refine ⟨fun hpos => hsp (by omega), fun k hk => ?_⟩
    have hk' : k < len := by simpa using hk
    simp only [List.getElem_map, List.getElem_range, dif_pos hk']
    obtain ⟨b, o, s⟩ := a
    have hs : s = none := hsp (by omega)
    subst hs
    exact Classical.choose_spec (hval k hk') b o rfl
end
end Go.Proofs.Ytjcmgkdlkadfmaa
