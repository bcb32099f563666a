/- LedgerTwins answers true for every base with entries and every call, and leaves its arguments as they were. No condition. -/
import Derived.Test.YtjcmgkdlkadfmaaRows
import Derived.Test.YtjcmgkdlkadfmaaLread
import Derived.Test.YtjcmgkdlkadfmaaLTwinsW
import Derived.WalkKit
import Derived.ProofKit
import Derived.OpenShut
import Derived.SizedLaws
namespace Go.Proofs.Ytjcmgkdlkadfmaa.ledgerTwins
open Go.ChangeShapes Go.WideShapes Go.ChangeAt Go.RowKit Go.Joins
set_option linter.unusedVariables false
theorem own : ownKnob Try.prog.godebug = none := by kernel_rfl
theorem laidOut : laidOutB Try.prog = true := by kernel_rfl
set_option maxRecDepth 100000 in
theorem lifted (os : Os) (started : os.Started) (H : Type) (enc : TypeId × Value → H) :
    ReturnsInHanded {} Try.checked os 11 .any (Rows.ledgerTwinsSpec.pre6 enc Try.prog Try.f11 Rows.ledgerTwinsRow.domain false) (Rows.ledgerTwinsSpec.post enc Try.prog Try.f11 false true false false) := by
  refine returnsInHanded_of_change_sized (C := Try.checked) own started (by kernel_rfl) Try.func11
    (ChangeSpec.witness6 (enc := enc) (C := Try.checked) false ⟨#[], #[.agg #[.int .i64 0, .int .i64 0, .slice none 0 0], .agg #[.int .i64 0, .int .i64 0, .int .i64 0, .slice none 0 0]], []⟩ 8 (by kernel_rfl) (by kernel_rfl) (by kernel_rfl) (by kernel_rfl)) ?_
  intro W base args ds gs before hval0 hW hcnd hsz0 _
  have hsz : (DataW.weightsEach Try.prog (Try.f11.params.toList ++ Rows.ledgerTwinsSpec.plain.varTypes Try.prog) (ds ++ gs)).all (· ≤ reachBytes) = true := hsz0
  have hval : ∀ (j : Nat) t v, Try.f11.params[j]? = some t → args[j]? = some v → Value.okWide Try.prog W .any base t v := hval0
  have hW' := hW
  obtain ⟨p, q, hA0, hV, rfl, hfz, hnd⟩ := hW
  have hA : DataW.TrodAll enc Try.prog W 0 (fun _ => true) true Try.f11.params.toList args.toList ds p := hA0
  rw [Try.params11] at hA hval hsz
  obtain ⟨v0, vs0, d0, ds0, p0, q0, hargs, rfl, rfl, h0, r0⟩ := trodAll_cons hA
  obtain ⟨v1, vs1, d1, ds1, p1, q1, rfl, rfl, rfl, h1, r1⟩ := trodAll_cons r0
  obtain ⟨rfl, rfl, rfl⟩ := trodAll_nil r1
  obtain rfl : args = #[v0, v1] := by cases args; simp_all
  obtain ⟨rfl, rfl⟩ := trodVars_none hV
  have k0 := h0
  have lt0 : ∀ x ∈ p0, x.block < W.heap.size := by obtain ⟨m, hm⟩ := k0; exact DataW.trod_lt m _ _ _ hm
  obtain ⟨x0_0, x0_1, x0_2, y0_0, y0_1, y0_2, n0, rfl, rfl, -, g0_0, g0_1, g0_2⟩ := open_agg3 Try.underlying24 (by kernel_rfl) (by kernel_rfl) (hval 0 24 v0 rfl rfl) h0
  obtain ⟨i0_0, e0_0, -, w0_0⟩ := DataW.trod_int Try.underlying3 g0_0
  obtain ⟨i0_1, e0_1, -, w0_1⟩ := DataW.trod_int Try.underlying3 g0_1
  have hws0 : ∀ n ∈ y0_2.1.weights Try.prog 22, n ≤ reachBytes := fun n hn => by
    have := List.all_eq_true.1 hsz n (DataW.weights_mem_each (j := 0) (t := 24) (d := .agg [y0_0.1, y0_1.1, y0_2.1]) rfl rfl n (by
      simp only [DataW.weights, Try.underlying24, List.map_cons, List.map_nil, DataW.weightsEach, List.mem_append]
      exact .inr (.inr (.inl hn))))
    simpa using this
  obtain ⟨a0, n0', c0, l0, el0, hl0⟩ := read_ents Try.underlying22 Try.underlying54 Try.underlying3 Try.underlying3 rfl (by kernel_rfl) Try.underlying52 Try.underlying5 (by kernel_rfl) (by kernel_rfl) (by kernel_rfl) (by kernel_rfl) g0_2 hws0
  simp only [List.cons.injEq, and_true] at e0_0 e0_1 el0
  subst e0_0; subst e0_1; subst el0
  have k1 := h1
  have lt1 : ∀ x ∈ p1, x.block < W.heap.size := by obtain ⟨m, hm⟩ := k1; exact DataW.trod_lt m _ _ _ hm
  obtain ⟨x1_0, x1_1, x1_2, x1_3, y1_0, y1_1, y1_2, y1_3, n1, rfl, rfl, -, g1_0, g1_1, g1_2, g1_3⟩ := open_agg4 Try.underlying59 (by kernel_rfl) (by kernel_rfl) (hval 1 59 v1 rfl rfl) h1
  obtain ⟨i1_0, e1_0, -, w1_0⟩ := DataW.trod_int Try.underlying3 g1_0
  obtain ⟨i1_1, e1_1, -, w1_1⟩ := DataW.trod_int Try.underlying3 g1_1
  obtain ⟨i1_2, e1_2, -, w1_2⟩ := DataW.trod_int Try.underlying3 g1_2
  have hws1 : ∀ n ∈ y1_3.1.weights Try.prog 22, n ≤ reachBytes := fun n hn => by
    have := List.all_eq_true.1 hsz n (DataW.weights_mem_each (j := 1) (t := 59) (d := .agg [y1_0.1, y1_1.1, y1_2.1, y1_3.1]) rfl rfl n (by
      simp only [DataW.weights, Try.underlying59, List.map_cons, List.map_nil, DataW.weightsEach, List.mem_append]
      exact .inr (.inr (.inr (.inl hn)))))
    simpa using this
  obtain ⟨a1, n1', c1, l1, el1, hl1⟩ := read_ents Try.underlying22 Try.underlying54 Try.underlying3 Try.underlying3 rfl (by kernel_rfl) Try.underlying52 Try.underlying5 (by kernel_rfl) (by kernel_rfl) (by kernel_rfl) (by kernel_rfl) g1_3 hws1
  simp only [List.cons.injEq, and_true] at e1_0 e1_1 e1_2 el1
  subst e1_0; subst e1_1; subst e1_2; subst el1
  clear hA0 hval0 hsz0 hsz
  refine (LedgerTwins_calls i0_0 i0_1 a0 n0' c0 l0 i1_0 i1_1 i1_2 a1 n1' c1 l1 W (wf_i64_bounds w0_0) (wf_i64_bounds w0_1) hl0 (wf_i64_bounds w1_0) (wf_i64_bounds w1_1) (wf_i64_bounds w1_2) hl1).mono fun e W' ⟨he, bel⟩ => ?_
  subst he
  exact ⟨_, rfl, _, _, _, [], _, [], hW', trodAll_mk1 (shut_bool Try.underlying4 _), (trodAll_cons_mk (Below.trod laidOut (by kernel_rfl) (of_decide_eq_true (by kernel_rfl)) k0 bel lt0) (trodAll_cons_mk (Below.trod laidOut (by kernel_rfl) (of_decide_eq_true (by kernel_rfl)) k1 bel lt1) trodAll_mk0)), rfl, bel.frame _, fun h => by cases h⟩
theorem over : Rows.ledgerTwinsRow.holds Try.pinned (OpenSpec.ofChange Rows.ledgerTwinsSpec) :=
  OpenClaim.holds_of_wide 11 Try.f11 rfl rfl rfl rfl rfl rfl rfl ⟨rfl, rfl, rfl, rfl, rfl⟩ rfl rfl rfl rfl rfl (by kernel_rfl) Try.func11 (by kernel_rfl)
    (of_decide_eq_true (by kernel_rfl)) (by unfold Func.isWrapper; first | (rw [if_pos (by decide +kernel)]; kernel_rfl) | (rw [if_neg (by decide +kernel)]; exact ⟨rfl, rfl⟩))
    (fun os started H enc _ => lifted os started H enc)
end Go.Proofs.Ytjcmgkdlkadfmaa.ledgerTwins
namespace Go.Proofs.Ytjcmgkdlkadfmaa
theorem LedgerTwins_holds : Rows.LedgerTwinsSaid := ledgerTwins.over
#print axioms LedgerTwins_holds
end Go.Proofs.Ytjcmgkdlkadfmaa
