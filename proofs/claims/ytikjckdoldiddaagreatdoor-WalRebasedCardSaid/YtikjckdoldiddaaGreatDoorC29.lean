/- One entry behind a row, within a region that draws its order. -/
import Derived.Test.YtikjckdoldiddaaGreatDoorC10
import Derived.Test.YtikjckdoldiddaaGreatDoorC01
import Derived.Test.YtikjckdoldiddaaGreatDoorC00
import Derived.StillTail
namespace Go.Proofs.YtikjckdoldiddaaGreatDoor
open Go.RowKit Go.Maps
set_option linter.unusedVariables false
set_option linter.unusedSimpArgs false

theorem wp_appE {w : World} {o : Oper} {a : Act} {K : Act → World → Prop} {Q : Exit → Act → World → Prop} (s x : Operand)
    (ho : o.op = .call { callee := .builtin .append, args := #[s, x], argTypes := #[40, 40] })
    (F : Nat → Prop) (B : Nat) (v : Value) (l : List Ent) (hs : a.eval s = v) (hown : RowE F B w v l) (g : Nat) (hx : a.eval x = .slice (some ⟨g, 0, none⟩) 1 1) (y : EH) (d : By)
    (hc : RowAt w (some ⟨g, 0, none⟩) 1 3 [.int .i64 y.i, .int .i64 y.t, .slice y.a y.n y.c]) (hy : ByF (Off F v) w y.a y.n y.c d) (h64 : In64 y.i ∧ In64 y.t) (hlen : l.length ≤ 1000000000000) (hB : B ≤ w.heap.size)
    (h : ∀ v' w', RowE F B w' v' (l ++ [⟨y.i, y.t, d⟩]) → Below B w w' → K (a.put o.dst v') w') : o.wp Tryz.prog a w K Q := by
  obtain ⟨H, h1, h2, h3, h4⟩ := hown
  refine wp_appRow s x 40 ho B 46 (.agg #[.int .i64 0, .int .i64 0, .slice none 0 0]) 3 40 Tryz.underlying40 info_ent rfl (by decide) v H.length (rawH H) hs h2
    ⟨g, 0, none⟩ 1 1 [.int .i64 y.i, .int .i64 y.t, .slice y.a y.n y.c] hx hc (wthree _ _ _ _ _) (by unfold maxLen; omega) (by omega) hB fun v' w' q1 q2 q4 => ?_
  have hbl : Below B w w' := (Below.refl _ _).grown q2 hB fun q hq => (h2.lt q hq).1
  have hk : ∀ q, Off F v q → q < w.heap.size → Off F v' q ∧ w'.heap[q]? = w.heap[q]? := fun q hq hl => ⟨⟨hq.1, fun e => by
    rcases q4 with q4 | q4
    · rw [q4] at e; exact hq.2 e
    rw [q4] at e; injection e with e; omega⟩, q2.block q hl fun e => hq.2 e.symm⟩
  refine h v' w' ⟨H ++ [y], by rw [List.length_append, List.length_append, h1]; rfl, by rw [List.length_append, rawH_snoc]; exact q1, fun j j1 j2 => ?_, fun j hj => ?_⟩ hbl
  · rw [List.length_append, List.length_cons, List.length_nil] at j1
    by_cases hj : j < H.length
    · have hj2 : j < l.length := by omega
      rw [List.getElem_append_left hj, List.getElem_append_left hj2]
      obtain ⟨e1, e2, e3⟩ := h3 j hj hj2
      exact ⟨e1, e2, e3.keep hk⟩
    obtain rfl : j = H.length := by omega
    rw [List.getElem_append_right (by omega), List.getElem_append_right (by omega)]
    simp only [Nat.sub_self, h1]
    exact ⟨rfl, rfl, hy.keep hk⟩
  rw [List.length_append, List.length_cons, List.length_nil] at hj
  by_cases hj2 : j < l.length
  · rw [List.getElem_append_left hj2]
    exact h4 j hj2
  rw [List.getElem_append_right (by omega)]
  have : j - l.length = 0 := by omega
  simp only [this]
  exact h64
end Go.Proofs.YtikjckdoldiddaaGreatDoor

/- A region that draws its order and ends in one operation that waits for all the others: the condition on the world need not hold behind that one. -/
namespace Go.Proofs.YtikjckdoldiddaaGreatDoor
open Go.RowKit Go.Maps
set_option linter.unusedVariables false
set_option linter.unusedSimpArgs false
universe u
section
variable {P : Program} {ops : Array Oper} {Q : Exit → Act → World → Prop} {md : Region.Mode} {S : World → Prop}
/-- Whatever order is picked from here on, and S holds behind every operation but number N. -/
def wpAnyN (P : Program) (md : Region.Mode) (ops : Array Oper) (Q : Exit → Act → World → Prop) (S : World → Prop) (N : Nat) : Nat → Array Bool → Act → World → Prop
  | 0, listed, a, w => Region.ready md ops listed = [] ∧ Q .normal a w
  | fuel + 1, listed, a, w =>
    (Region.ready md ops listed = [] → Q .normal a w) ∧
    ∀ i ∈ Region.ready md ops listed, wpOp P ops Q i (fun a' w' => (i ≠ N → S w') ∧ wpAnyN P md ops Q S N fuel (listed.setIfInBounds i true) a' w') a w
theorem wpAny_of_N {N : Nat} : ∀ (fuel : Nat) (listed : Array Bool) (a : Act) (w : World), wpAnyN P md ops Q S N fuel listed a w → wpAny P md ops Q fuel listed a w
  | 0, _, _, _, h => h
  | fuel + 1, _, _, _, h => ⟨h.1, fun i hi => wpOp_mono (fun a' w' h' => wpAny_of_N fuel _ a' w' h'.2) (h.2 i hi)⟩
theorem wpAnyN_first {N i : Nat} {oi : Oper} {v : Value} (hi : ops[i]? = some oi) (hsel : ∀ (j : Nat) (o : Oper) cs b, ops[j]? = some o → o.op ≠ .select cs b)
    (hQ : ∀ c a w, Q (.panic c) (a.put oi.dst v) w → Q (.panic c) a w) (hN : Region.waitsFor md ops N i = true) :
    ∀ (fuel : Nat) (listed : Array Bool) (a : Act) (w : World),
      (∀ j oj, ops[j]? = some oj → j ≠ i → listed.getD j true = false → (∀ e ∈ oj.after, Region.binds md e = true → e.on ≠ i) → oi.apart ops oj = true) →
      i ∈ Region.ready md ops listed → YieldsIf P ops S oi v a → S w →
      wpAnyN P md ops Q S N fuel (listed.setIfInBounds i true) (a.put oi.dst v) w → wpAnyN P md ops Q S N (fuel + 1) listed a w := by
  intro fuel
  induction fuel with
  | zero =>
    intro listed a w _ hr hy hS H
    refine ⟨fun h => (by rw [h] at hr; cases hr), fun j hj => ?_⟩
    by_cases hji : j = i
    · subst hji; exact hy.wpOp hi hS ⟨fun _ => hS, H⟩
    have := ready_mono hj hji
    rw [H.1] at this
    cases this
  | succ fuel ih =>
    intro listed a w hfree hr hy hS H
    refine ⟨fun h => (by rw [h] at hr; cases hr), fun j hj => ?_⟩
    by_cases hji : j = i
    · subst hji; exact hy.wpOp hi hS ⟨fun _ => hS, H⟩
    have h1 := H.2 j (ready_mono hj hji)
    obtain ⟨hjun, oj, hoj, hall⟩ := mem_ready.1 hj
    have hnot : ∀ e ∈ oj.after, Region.binds md e = true → e.on ≠ i := fun e he hb heq => by
      have h1 := hall e he hb
      have h0 := (mem_ready.1 hr).1
      rw [heq] at h1
      rcases Nat.lt_or_ge i listed.size with h' | h'
      · simp [h'] at h0 h1; rw [h0] at h1; cases h1
      simp [Array.getElem?_eq_none h'] at h1
    have hjN : j ≠ N := fun e => by
      obtain ⟨oN, hoN, e1, he1, hb1, hon1⟩ := Region.waitsFor_spec hN
      rw [← e] at hoN
      have : oN = oj := Option.some.inj (hoN.symm.trans hoj)
      subst this
      exact hnot e1 he1 hb1 hon1
    have h2 := wpOp_putIf hoj (hfree j oj hoj hji hjun hnot) (fun cs b => hsel i oi cs b hi) (fun cs b => hsel j oj cs b hoj) hQ hy h1
    have hfree' : ∀ k ok, ops[k]? = some ok → k ≠ i → (listed.setIfInBounds j true).getD k true = false →
        (∀ e ∈ ok.after, Region.binds md e = true → e.on ≠ i) → oi.apart ops ok = true := fun k ok hk hki hun hno => by
      refine hfree k ok hk hki ?_ hno
      by_cases hjk : j = k
      · subst hjk; exact hjun
      rw [getD_set_ne true hjk] at hun; exact hun
    refine wpOp_mono (fun a' w' h3 => ⟨h3.2.1, ih (listed.setIfInBounds j true) a' w' hfree' (ready_mono hr (Ne.symm hji)) h3.1 (h3.2.1 hjN) ?_⟩) h2
    rw [Array.setIfInBounds_comm _ _ hji]
    exact h3.2.2
theorem wpAnyN_done {N : Nat} {listed : Array Bool} {a : Act} {w : World} (hr : Region.ready md ops listed = []) (h : Q .normal a w) :
    ∀ fuel, wpAnyN P md ops Q S N fuel listed a w
  | 0 => ⟨hr, h⟩
  | _ + 1 => ⟨fun _ => h, by rw [hr]; simp⟩
theorem wp_region_N (N : Nat) {id : Nat} {a : Act} {w : World} (hm : P.follows .mixedOrders = true)
    (h : wpAnyN P .any ops Q S N ops.size (Array.replicate ops.size false) a w.drew) : (Code.region id ops true).wp P Q a w :=
  wp_region_any hm (wpAny_of_N _ _ _ _ h)
end
section
variable {P : Program} {l : List Oper} {Q : Exit → Act → World → Prop} {md : Region.Mode} {S : World → Prop}
theorem runN {N i : Nat} {oi : Oper} {v : Value} {fuel : Nat} {listed : Array Bool} {a : Act} {w : World} (hi : nthO l i = some oi)
    (hs : Region.noSelect l.toArray = true) (hf : Region.free md l.toArray listed i = true) (hr : (Region.ready md l.toArray listed).contains i = true) (hN : Region.waitsFor md l.toArray N i = true)
    (hQ : ∀ c a w, Q (.panic c) (a.put oi.dst v) w → Q (.panic c) a w) (hw : Region.wanted oi (yielded l.toArray a.tmps) = true) (hS : S w) (hy : ∀ W, S W → (execOp a.eval oi).run P W = .ok (.value v) W)
    (h : wpAnyN P md l.toArray Q S N fuel (listed.setIfInBounds i true) (a.put oi.dst v) w) : wpAnyN P md l.toArray Q S N (fuel + 1) listed a w :=
  wpAnyN_first (by rw [List.getElem?_toArray, nthO_get]; exact hi) (Region.noSelect_spec hs) hQ hN fuel listed a w (Region.free_spec (by rw [List.getElem?_toArray, nthO_get]; exact hi) hf) (by simpa using hr) (Or.inl ⟨hw, hy⟩) hS h
/-- The one operation that may come up next. -/
theorem consN {N i : Nat} {fuel : Nat} {listed : Array Bool} {a : Act} {w : World} {o : Oper} (ho : nthO l i = some o) (hr : Region.ready md l.toArray listed = [i])
    (h : ∀ K' : Act → World → Prop, Shut (∀ a w, (i ≠ N → S w) → wpAnyN P md l.toArray Q S N fuel (listed.setIfInBounds i true) a w → K' a w) → if Region.wanted o (yielded l.toArray a.tmps) = true then Oper.wp P o a w K' Q else K' (a.put o.dst undef) w) :
    wpAnyN P md l.toArray Q S N (fuel + 1) listed a w :=
  ⟨(fun h0 => by rw [hr] at h0; cases h0), fun j hj => by
    rw [hr] at hj
    obtain rfl : j = i := by simpa using hj
    exact wpOp_step (by rw [List.getElem?_toArray, nthO_get]; exact ho) (fun K' hK => h K' (fun a w hS hW => hK a w ⟨hS, hW⟩))⟩
/-- Two operations, either of which may come up next. -/
theorem consN2 {N i k : Nat} {fuel : Nat} {listed : Array Bool} {a : Act} {w : World} {o o2 : Oper} (ho : nthO l i = some o) (ho2 : nthO l k = some o2) (hr : Region.ready md l.toArray listed = [i, k])
    (h : ∀ K' : Act → World → Prop, Shut (∀ a w, (i ≠ N → S w) → wpAnyN P md l.toArray Q S N fuel (listed.setIfInBounds i true) a w → K' a w) → if Region.wanted o (yielded l.toArray a.tmps) = true then Oper.wp P o a w K' Q else K' (a.put o.dst undef) w)
    (h2 : ∀ K' : Act → World → Prop, Shut (∀ a w, (k ≠ N → S w) → wpAnyN P md l.toArray Q S N fuel (listed.setIfInBounds k true) a w → K' a w) → if Region.wanted o2 (yielded l.toArray a.tmps) = true then Oper.wp P o2 a w K' Q else K' (a.put o2.dst undef) w) :
    wpAnyN P md l.toArray Q S N (fuel + 1) listed a w :=
  ⟨(fun h0 => by rw [hr] at h0; cases h0), fun j hj => by
    rw [hr] at hj
    rcases (by simpa using hj : j = i ∨ j = k) with rfl | rfl
    · exact wpOp_step (by rw [List.getElem?_toArray, nthO_get]; exact ho) (fun K' hK => h K' (fun a w hS hW => hK a w ⟨hS, hW⟩))
    exact wpOp_step (by rw [List.getElem?_toArray, nthO_get]; exact ho2) (fun K' hK => h2 K' (fun a w hS hW => hK a w ⟨hS, hW⟩))⟩
end
end Go.Proofs.YtikjckdoldiddaaGreatDoor
