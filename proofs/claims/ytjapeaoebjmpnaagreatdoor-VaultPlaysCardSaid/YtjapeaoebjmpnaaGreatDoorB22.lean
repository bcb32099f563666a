/- The walk of VaultChecks. -/
import Derived.Test.YtjapeaoebjmpnaaGreatDoorB20
import Derived.Lib.AppendZeros
import Derived.Lib.AppendZerosOnto
import Derived.Laws.CopyRow
namespace Go.Proofs.YtjapeaoebjmpnaaGreatDoor
open Go.RowKit Go.Maps
set_option linter.unusedVariables false
set_option linter.unusedSimpArgs false
attribute [local go_sem] bmax2 bmin2 bmax_two bmin_two

end Go.Proofs.YtjapeaoebjmpnaaGreatDoor

/- append of made zeros to a row of one's own; the walk of the law's snap. -/
namespace Go.Proofs.YtjapeaoebjmpnaaGreatDoor
open Go.RowKit Go.Maps
set_option linter.unusedVariables false
set_option linter.unusedSimpArgs false
attribute [local go_sem] bmax2 bmin2 bmax_two bmin_two

theorem zeroCells_toList (k : Nat) : (Builtin.zeroCells #[.int .u8 0] k).toList = List.replicate k (.int .u8 0) := by
  have := toList_madeCells_one (.int .u8 0) k
  unfold madeCells at this
  unfold Builtin.zeroCells
  simpa using this
theorem und_int : Tryz.prog.underlying 3 = some (.int .i64) := Tryz.underlying3
theorem app_zeros {w : World} {base : Nat} {v : Value} {n : Nat} {xs : List Value} (hown : w.ownsRow base 5 1 v n xs) (k : Nat) (hk : k ≤ 3000) (hn : n ≤ 140737488351232) (hbase : base ≤ w.heap.size) (ty : TypeId) :
    ∃ v' w', (Builtin.append_ #[23, 3] ty #[v, .int .i64 (k : Int)]).run Tryz.prog w = .ok v' w' ∧ w'.ownsRow base 5 1 v' (n + k) (xs ++ List.replicate k (.int .u8 0)) ∧ w.grownBy w' v.ownBlock := by
  obtain ⟨i, hi, hz, hz1, hz2⟩ := info_parts info_u8
  have hlen : (xs ++ List.replicate k (Value.int .u8 0)).length = (n + k) * 1 := by rw [List.length_append, hown.1, List.length_replicate]; omega
  have hk63 : IntKind.i64.wrap (k : Int) = k := IntWalk.i64_in _ (by omega)
  have hneg : ¬ ((k : Int) < 0) := by omega
  have h48 : ¬ (281474976710656 < (k : Int)) := by omega
  by_cases hk0 : k = 0
  · subst hk0
    have h0w : IntKind.i64.wrap 0 = 0 := by decide
    refine ⟨v, w, ?_, by simpa using hown, ⟨rfl, rfl, rfl, Nat.le_refl _, fun _ _ _ => rfl⟩⟩
    rcases hown.2 with ⟨rfl, rfl⟩ | ⟨g, cap, cur, rfl, hbg, hg, hnc, hcm, hcs, htake⟩
    · simp [Builtin.append_, run_underlying Tryz.underlying23, run_underlying und_int, sizeOf, typeInfo, hi, asInt, asIntOf, h0w, hz2, Builtin.firstCells, loadCells, loadCellsFrom]
    simp [Builtin.append_, run_underlying Tryz.underlying23, run_underlying und_int, sizeOf, typeInfo, hi, asInt, asIntOf, h0w, hz2, hnc, storeCells]
  have grown : ∀ (W : World) (cap : Nat), W.os = w.os → W.tape = w.tape → W.output = w.output → W.heap = w.heap → ∀ C, n + k ≤ C → C ≤ maxLen → ∀ row,
      (W.alloc (.cells (xs.toArray ++ Builtin.zeroCells #[.int .u8 0] k ++ Builtin.zeroCells #[.int .u8 0] (C - (n + k))) 5)).ownsRow base 5 1 (.slice (some ⟨w.heap.size, 0, none⟩) (n + k) C) (n + k) (xs ++ List.replicate k (.int .u8 0)) ∧
      w.grownBy (W.alloc (.cells (xs.toArray ++ Builtin.zeroCells #[.int .u8 0] k ++ Builtin.zeroCells #[.int .u8 0] (C - (n + k))) 5)) row := by
    intro W cap e1 e2 e3 e4 C hC hCm row
    have hz : W.heap.size = w.heap.size := by rw [e4]
    refine ⟨⟨hlen, .inr ⟨w.heap.size, C, _, rfl, hbase, by rw [← hz]; exact heap_alloc_new W _, hC, hCm, ?_, ?_⟩⟩, ⟨e1, e2, e3, by simp [hz], fun q hq _ => by rw [heap_alloc_old W _ q (by omega), e4]⟩⟩
    · simp only [Array.size_append, List.size_toArray, size_zeroCells, hown.1]
      simp
      omega
    rw [Array.toList_append, Array.toList_append, zeroCells_toList, zeroCells_toList, ← hlen]
    exact List.take_left
  rcases hown.2 with ⟨rfl, rfl⟩ | ⟨g, cap, cur, rfl, hbg, hg, hnc, hcm, hcs, htake⟩
  · have hx : xs = [] := List.eq_nil_of_length_eq_zero (by simpa using hown.1)
    subst hx
    have hr := Lib.run_append_nil_zeros (P := Tryz.prog) w 23 3 ty 5 i _ .i64 .i64 Tryz.underlying23 und_int hi hz k (by omega) (by omega) (by omega) (by rw [hz2]; omega)
    have hG := grown w.drew 0 rfl rfl rfl rfl (grownCap w k 0 5) (by have := grownCap_ge w k 0 5; omega) (grownCap_le_maxLen w k 0 5 (by unfold maxLen; omega)) (Value.ownBlock (.slice none 0 0))
    simp only [Nat.zero_add, List.nil_append, Array.empty_append] at hG ⊢
    exact ⟨_, _, hr, hG⟩
  by_cases hroom : n + k ≤ cap
  · have hcsz : cur.size = cap := by rw [hcs, Nat.mul_one]
    have hst := run_storeCells_at (P := Tryz.prog) g n 5 (List.replicate k (Value.int .u8 0)) 0 cur w hg (by rw [List.length_replicate]; omega) (fun u hu => by rw [List.eq_of_mem_replicate hu]; rfl)
    simp only [Nat.add_zero] at hst
    refine ⟨.slice (some ⟨g, 0, none⟩) (n + k) cap, w.setRow g (cur.toList.take n ++ List.replicate k (Value.int .u8 0) ++ cur.toList.drop (n + (List.replicate k (Value.int .u8 0)).length)).toArray, ?_, ⟨hlen, .inr ⟨g, cap, _, rfl, hbg, setRow_heap w g cur _ 5 _ hg, hroom, hcm, ?_, ?_⟩⟩, ⟨rfl, rfl, rfl, by simp [World.setRow], fun q _ hq => setRow_other w g q _ (fun e => hq (by simp [Value.ownBlock, e]))⟩⟩
    · have hns : ¬ (k * i.size = 0) := by rw [hz1]; omega
      simp [Builtin.append_, run_underlying Tryz.underlying23, run_underlying und_int, sizeOf, typeInfo, zeroValue, hi, hz, asInt, asIntOf, hk63, hneg, h48, hz2, hz1, hroom, hk0, Addr.add_lit, Value.cells, zeroCells_toList, hst]
    · simp only [List.size_toArray, List.length_append, List.length_take, List.length_drop, List.length_replicate, Array.length_toList]
      omega
    rw [Nat.mul_one] at htake ⊢
    rw [htake]
    have e : (xs ++ List.replicate k (Value.int .u8 0)).length = n + k := by rw [hlen, Nat.mul_one]
    show List.take (n + k) (xs ++ List.replicate k (Value.int .u8 0) ++ _) = _
    rw [← e]
    exact List.take_left
  have hold : (Builtin.firstCells i.size n (.slice (some ⟨g, 0, none⟩) n cap)).run Tryz.prog w.drew = .ok xs.toArray w.drew :=
    run_firstCells_some (P := Tryz.prog) w.drew i.size n ⟨g, 0, none⟩ n cap xs (by rw [hz1]; exact hown.1) (fun j u hj => by
      have h1 := hown.cellAt j (by have := (List.getElem?_eq_some_iff.1 hj).1; rw [hown.1] at this; exact this)
      rw [add_lit, Nat.zero_add]
      show w.cell? ⟨g, j, none⟩ = _
      rw [h1]; exact hj)
  have hr := Lib.run_append_grow_zeros (P := Tryz.prog) w 23 3 ty 5 i _ .i64 .i64 Tryz.underlying23 und_int hi hz (some ⟨g, 0, none⟩) n cap xs hold k (by omega) (by omega) (by omega) (by omega) (by rw [hz2]; omega) (by rw [hz2]; have := nextslicecap_le (need := n + k) (old := cap) (by omega); omega)
  have hG := grown w.drew cap rfl rfl rfl rfl (grownCap w (n + k) cap 5) (grownCap_ge w (n + k) cap 5) (grownCap_le_maxLen w (n + k) cap 5 (by unfold maxLen; omega)) (Value.ownBlock (.slice (some ⟨g, 0, none⟩) n cap))
  exact ⟨_, _, hr, hG⟩
end Go.Proofs.YtjapeaoebjmpnaaGreatDoor
