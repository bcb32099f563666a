/- Lists of pieces in memory; from what a reader reads to them. -/
import Derived.Test.YtjapeaoebjmpnaaGreatDoorBVt1
import Derived.Test.YtjapeaoebjmpnaaGreatDoorBVread2
namespace Go.Proofs.YtjapeaoebjmpnaaGreatDoor
open Go.RowKit Go.ChangeShapes Go.WideShapes Go.Deep Go.Joins Go.Maps
set_option linter.unusedVariables false
set_option linter.unusedSimpArgs false
structure Pt where
  i : Int
  t : Int
  k : Int
  d : By
  done : Bool
/-- A piece's five cells. -/
def PtAt (F : Nat → Prop) (w : World) (b o : Nat) (p : Pt) : Prop :=
  ∃ da dn dc, w.cell? ⟨b, o, none⟩ = some (.int .i64 p.i) ∧ w.cell? ⟨b, o + 1, none⟩ = some (.int .i64 p.t) ∧ w.cell? ⟨b, o + 2, none⟩ = some (.int .i64 p.k) ∧ w.cell? ⟨b, o + 3, none⟩ = some (.slice da dn dc) ∧ w.cell? ⟨b, o + 4, none⟩ = some (.bool p.done) ∧
    (In64 p.i ∧ In64 p.t ∧ In64 p.k) ∧ ByF F w da dn dc p.d
theorem PtAt.keep {F G : Nat → Prop} {w w' : World} {b o : Nat} {k : Pt} (h : PtAt F w b o k) (hb : w'.heap[b]? = w.heap[b]?) (hf : ∀ q, F q → q < w.heap.size → G q ∧ w'.heap[q]? = w.heap[q]?) : PtAt G w' b o k := by
  obtain ⟨da, dn, dc, h0, h1, h2, h3, h4, h5, h6⟩ := h
  have hc : ∀ j, w'.cell? ⟨b, j, none⟩ = w.cell? ⟨b, j, none⟩ := fun j => World.cell?_of_block (w := w) (a := ⟨b, j, none⟩) hb
  exact ⟨da, dn, dc, (hc _).trans h0, (hc _).trans h1, (hc _).trans h2, (hc _).trans h3, (hc _).trans h4, h5, h6.keep hf⟩
def PtsF (F : Nat → Prop) (w : World) (a : Option Addr) (n c : Nat) (l : List Pt) : Prop :=
  n = l.length ∧ n ≤ c ∧ c ≤ maxLen ∧ (a = none → c = 0) ∧ ∀ p, a = some p → (0 < c → p.spot = none) ∧ ∀ k, (h : k < l.length) → F p.block ∧ PtAt F w p.block (p.off + k * 5) l[k]
theorem PtsF.keep {F G : Nat → Prop} {w w' : World} {a : Option Addr} {n c : Nat} {l : List Pt} (h : PtsF F w a n c l) (hf : ∀ k, F k → k < w.heap.size → G k ∧ w'.heap[k]? = w.heap[k]?) : PtsF G w' a n c l := by
  obtain ⟨h1, h2, h3, h4, h5⟩ := h
  refine ⟨h1, h2, h3, h4, fun p hp => ⟨(h5 p hp).1, fun k hk => ?_⟩⟩
  obtain ⟨h6, h7⟩ := (h5 p hp).2 k hk
  have hl : p.block < w.heap.size := by
    obtain ⟨_, _, _, h8, -⟩ := h7
    exact World.block_lt_of_cell? w ⟨p.block, p.off + k * 5, none⟩ h8
  exact ⟨(hf _ h6 hl).1, h7.keep (hf _ h6 hl).2 hf⟩
theorem PtsF.below {F : Nat → Prop} {w w' : World} {a : Option Addr} {n c : Nat} {l : List Pt} (h : PtsF F w a n c l) (hx : Ext w w') : PtsF F w' a n c l := h.keep fun k hk hl => ⟨hk, hx.block k hl⟩
theorem PtsF.nil_ (F : Nat → Prop) (w : World) : PtsF F w none 0 0 [] := ⟨rfl, by simp, by simp, fun _ => rfl, fun p hp => by cases hp⟩
theorem PtsF.at_ {F : Nat → Prop} {w : World} {a : Option Addr} {n c : Nat} {l : List Pt} (h : PtsF F w a n c l) {k : Nat} (hk : k < n) : ∃ b o, a = some ⟨b, o, none⟩ ∧ F b ∧ b < w.heap.size ∧ ∃ hl : k < l.length, PtAt F w b (o + k * 5) l[k] := by
  obtain ⟨rfl, h2, h3, h4, h5⟩ := h
  cases a with
  | none => have := h4 rfl; omega
  | some p =>
    obtain ⟨b, o, s⟩ := p
    have hs : s = none := (h5 _ rfl).1 (by omega)
    subst hs
    obtain ⟨h6, h7⟩ := (h5 _ rfl).2 k hk
    have hl : b < w.heap.size := by
      obtain ⟨_, _, _, h8, -⟩ := h7
      exact World.block_lt_of_cell? w ⟨b, o + k * 5, none⟩ h8
    exact ⟨b, o, rfl, h6, hl, hk, h7⟩
section
variable {H : Type} {enc : TypeId × Value → H} {w : World}
theorem c_part : Tryz.prog.cellsOf 93 = 5 := by kernel_rfl
theorem c_bool : Tryz.prog.cellsOf 4 = 1 := by kernel_rfl
theorem list5 {α : Type} {l : List α} (h : l.length = 5) : ∃ c0 c1 c2 c3 c4, l = [c0, c1, c2, c3, c4] := by
  match l, h with
  | [c0, c1, c2, c3, c4], _ => exact ⟨c0, c1, c2, c3, c4, rfl⟩
theorem read_pt {fuel : Nat} {cs : List Value} {x : DataW H × List MemPlace} (h : DataW.trod enc Tryz.prog w 0 (fun _ => true) true fuel 93 cs = some x) (hw : ∀ n ∈ x.1.weights Tryz.prog 93, n ≤ reachBytes) :
    ∃ (k : Pt) (da : Option Addr) (dn dc : Nat), cs = [.int .i64 k.i, .int .i64 k.t, .int .i64 k.k, .slice da dn dc, .bool k.done] ∧ (In64 k.i ∧ In64 k.t ∧ In64 k.k) ∧ ByF (fun _ => True) w da dn dc k.d := by
  obtain ⟨xs, n, -, rfl, hl, hlen, hf⟩ := DataW.trod_struct Tryz.underlying93 h
  rw [c_part] at hl
  obtain ⟨c0, c1, c2, c3, c4, rfl⟩ := list5 hl
  obtain ⟨y0, y1, y2, y3, y4, rfl⟩ := list5 (hlen.trans rfl)
  have g0 : DataW.trod enc Tryz.prog w 0 (fun _ => true) true n 3 (List.take (Tryz.prog.cellsOf 3) (List.drop 0 [c0, c1, c2, c3, c4])) = some y0 := hf 0 _ rfl
  have g1 : DataW.trod enc Tryz.prog w 0 (fun _ => true) true n 3 (List.take (Tryz.prog.cellsOf 3) (List.drop 1 [c0, c1, c2, c3, c4])) = some y1 := hf 1 _ rfl
  have g2 : DataW.trod enc Tryz.prog w 0 (fun _ => true) true n 3 (List.take (Tryz.prog.cellsOf 3) (List.drop 2 [c0, c1, c2, c3, c4])) = some y2 := hf 2 _ rfl
  have g3 : DataW.trod enc Tryz.prog w 0 (fun _ => true) true n 23 (List.take (Tryz.prog.cellsOf 23) (List.drop 3 [c0, c1, c2, c3, c4])) = some y3 := hf 3 _ rfl
  have g4 : DataW.trod enc Tryz.prog w 0 (fun _ => true) true n 4 (List.take (Tryz.prog.cellsOf 4) (List.drop 4 [c0, c1, c2, c3, c4])) = some y4 := hf 4 _ rfl
  rw [c_int] at g0 g1 g2
  rw [c_bytes] at g3
  rw [c_bool] at g4
  obtain ⟨i0, e0, -, w0⟩ := DataW.trod_int Tryz.underlying3 g0
  obtain ⟨i1, e1, -, w1⟩ := DataW.trod_int Tryz.underlying3 g1
  obtain ⟨i2, e2, -, w2⟩ := DataW.trod_int Tryz.underlying3 g2
  obtain ⟨da, dn, dc, d, e3, hd⟩ := read_bytes Tryz.underlying23 Tryz.underlying5 (by kernel_rfl) (by kernel_rfl) g3 (fun q hq => hw q (by
    simp only [DataW.weights, Tryz.underlying93, List.map_cons, List.map_nil, DataW.weightsEach, List.mem_append]
    exact .inr (.inr (.inr (.inl hq)))))
  obtain ⟨b4, e4, -⟩ := DataW.trod_bool Tryz.underlying4 g4
  simp only [List.drop_succ_cons, List.drop_zero, List.take_succ_cons, List.take_zero, List.cons.injEq, and_true] at e0 e1 e2 e3 e4
  subst e0; subst e1; subst e2; subst e3; subst e4
  exact ⟨⟨i0, i1, i2, d, b4⟩, da, dn, dc, rfl, ⟨wf_i64_bounds w0, wf_i64_bounds w1, wf_i64_bounds w2⟩, hd⟩
theorem read_partsV {fuel : Nat} {cs : List Value} {x : DataW H × List MemPlace} (h : DataW.trod enc Tryz.prog w 0 (fun _ => true) true fuel 91 cs = some x) (hw : ∀ n ∈ x.1.weights Tryz.prog 91, n ≤ reachBytes) :
    ∃ a n c l, cs = [.slice a n c] ∧ PtsF (fun _ => True) w a n c l := by
  rcases open_slice Tryz.underlying91 h with ⟨rfl, -⟩ | ⟨a, len, cap, m, n, D, Pl, rfl, -, hl, hm, hmm, rfl, hi⟩
  · exact ⟨none, 0, 0, [], rfl, PtsF.nil_ _ _⟩
  · simp only [if_true] at hmm
    subst hmm
    rw [c_part] at hi
    have hD : ∀ i, i < len → ∀ q ∈ (D i).weights Tryz.prog 93, q ≤ reachBytes := by
      intro i hil q hq
      refine hw q ?_
      simp only [DataW.weights, Tryz.underlying91, List.mem_cons, List.mem_append]
      exact .inr (.inl (weights_all (List.mem_map.2 ⟨i, List.mem_range.2 hil, rfl⟩) q hq))
    have hsp : 0 < m → a.spot = none := fun h0 => by
      obtain ⟨cs', hcs, -⟩ := hi 0 h0
      obtain ⟨-, hlen, hcell⟩ := World.cells?_some hcs
      have h3 := hcell 0 (by omega)
      rw [List.getElem?_eq_getElem (by omega)] at h3
      have := spot_of_cell h3
      unfold Addr.add at this
      simpa using this
    have hval : ∀ i, i < len → ∃ e : Pt, ∀ b o, a = ⟨b, o, none⟩ → PtAt (fun _ => True) w b (o + i * 5) e := by
      intro i hil
      obtain ⟨cs', hcs, htr⟩ := hi i (by omega)
      obtain ⟨-, hlen, hcell⟩ := World.cells?_some hcs
      obtain ⟨k, da, dn, dc, rfl, h1, h2⟩ := read_pt htr (hD i hil)
      refine ⟨k, fun b o ha => ?_⟩
      subst ha
      have cell : ∀ j, j < 5 → w.cell? ⟨b, o + i * 5 + j, none⟩ = [Value.int .i64 k.i, .int .i64 k.t, .int .i64 k.k, .slice da dn dc, .bool k.done][j]? := by
        intro j hj
        have := hcell j hj
        rw [add_lit, add_lit] at this
        exact this
      exact ⟨da, dn, dc, cell 0 (by omega), cell 1 (by omega), cell 2 (by omega), cell 3 (by omega), cell 4 (by omega), h1, h2⟩
    refine ⟨some a, len, m, (List.range len).map fun i => if h : i < len then Classical.choose (hval i h) else ⟨0, 0, 0, [], false⟩, rfl, by simp, hl, hm, (fun e => by cases e), fun p hp => ?_⟩
    cases hp
    refine ⟨hsp, fun k hk => ⟨trivial, ?_⟩⟩
    have hk' : k < len := by simpa using hk
    simp only [List.getElem_map, List.getElem_range, dif_pos hk']
    obtain ⟨b, o, s⟩ := a
    have hs : s = none := hsp (by omega)
    subst hs
    exact Classical.choose_spec (hval k hk') b o rfl
end
end Go.Proofs.YtjapeaoebjmpnaaGreatDoor
