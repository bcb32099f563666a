/- The walk of the law LedgerNobody. -/
import Derived.Test.YtjcmgkdlkadfmaaLn1
import Derived.Test.YtjcmgkdlkadfmaaLtwo
namespace Go.Proofs.Ytjcmgkdlkadfmaa
open Go.RowKit
set_option linter.unusedVariables false
set_option linter.unusedSimpArgs false
attribute [local go_sem] bmax2 bmin2 bmax_two bmin_two

set_option maxRecDepth 100000 in
set_option maxHeartbeats 20000000 in
theorem LedgerNobody_calls {G : Nat → Prop} (op x y : Int) (a' : Option Addr) (n' c' : Nat) (l' : List Ent) (w : World)
    (ho : In64 op) (hx : In64 x) (hy : In64 y) (hl' : EsF G w a' n' c' l') :
    Calls Try.prog 12 #[doV op x y a' n' c'] w fun e w' => e = .returned (.bool true) ∧ Ext w w' := by
  have HK := hid hl'
  clear hl' ho hx hy
  go_enter Try.func12, Try.ntmps12
  go_wp2_with fail
  refine (light_any G _ _ _ [l'] _ (by exact LLsF.one _ (HK.out.below (ext_alloc _ _)) (by simp))).mono ?_
  rintro e w1 ⟨bb, rfl, hbb, hw1⟩
  have hx1 : Ext w ((w.alloc (.cells #[.int .i64 op, .int .i64 x, .int .i64 y, .slice a' n' c'] 59)).alloc (.cells #[.slice a' n' c'] 22)) := Ext.trans' (ext_alloc _ _) (ext_alloc _ _)
  cases bb with
  | false =>
    subst hw1
    go_wp2_with fail
    refine (awake_any _).mono ?_
    rintro e w2 ⟨rfl, hb2⟩
    go_wp2
    go_ret
    exact ⟨rfl, Ext.trans' hx1 hb2⟩
  | true =>
    subst hw1
    have hW : ∃ W, W = ((((w.alloc (.cells #[.int .i64 op, .int .i64 x, .int .i64 y, .slice a' n' c'] 59)).alloc (.cells #[.slice a' n' c'] 22)).alloc (.cells #[.int .i64 0, .int .i64 0, .slice none 0 0, .bool false] 71)).alloc
        (.cells #[.pointer none, .pointer (some ⟨w.heap.size + 1 + 1, 0, none⟩)] 27)) := ⟨_, rfl⟩
    obtain ⟨W, hW⟩ := hW
    have hx : Ext w W := by subst hW; exact Ext.trans' hx1 (Ext.trans' (ext_alloc _ _) (ext_alloc _ _))
    have d0 : W.heap[w.heap.size]? = some (.cells #[.int .i64 op, .int .i64 x, .int .i64 y, .slice a' n' c'] 59 (0, 0)) := by
      subst hW
      rw [Below.heap_alloc _ _ _ (by simp; omega), Below.heap_alloc _ _ _ (by simp; omega), Below.heap_alloc _ _ _ (by simp)]
      exact heap_alloc_new w _
    have d1 : W.heap[w.heap.size + 1 + 1]? = some (.cells #[.int .i64 0, .int .i64 0, .slice none 0 0, .bool false] 71 (0, 0)) := by
      subst hW
      rw [Below.heap_alloc _ _ _ (by simp)]
      have := heap_alloc_new ((w.alloc (.cells #[.int .i64 op, .int .i64 x, .int .i64 y, .slice a' n' c'] 59)).alloc (.cells #[.slice a' n' c'] 22)) (.cells #[.int .i64 0, .int .i64 0, .slice none 0 0, .bool false] 71)
      simpa using this
    have d2 : W.heap[w.heap.size + 1 + 1 + 1]? = some (.cells #[.pointer none, .pointer (some ⟨w.heap.size + 1 + 1, 0, none⟩)] 27 (0, 0)) := by
      subst hW
      have := heap_alloc_new (((w.alloc (.cells #[.int .i64 op, .int .i64 x, .int .i64 y, .slice a' n' c'] 59)).alloc (.cells #[.slice a' n' c'] 22)).alloc (.cells #[.int .i64 0, .int .i64 0, .slice none 0 0, .bool false] 71)) (.cells #[.pointer none, .pointer (some ⟨w.heap.size + 1 + 1, 0, none⟩)] 27)
      simpa using this
    have hsz : w.heap.size + 1 + 1 + 1 < W.heap.size := (Array.getElem?_eq_some_iff.1 d2).1
    have f0 : W.cell? ⟨w.heap.size, 0, none⟩ = some (.int .i64 op) := by simp [World.cell?, d0]
    have f1 : W.cell? ⟨w.heap.size, 1, none⟩ = some (.int .i64 x) := by simp [World.cell?, d0]
    have f2 : W.cell? ⟨w.heap.size, 2, none⟩ = some (.int .i64 y) := by simp [World.cell?, d0]
    have f3 : W.cell? ⟨w.heap.size, 3, none⟩ = some (.slice a' n' c') := by simp [World.cell?, d0]
    have hk : ∀ k, k < 2 → ∃ p, W.cell? ⟨w.heap.size + 1 + 1 + 1, k, none⟩ = some (.pointer p) ∧ Nob W p := by
      intro k hk
      match k, hk with
      | 0, _ => exact ⟨none, by simp [World.cell?, d2], .inl rfl⟩
      | 1, _ => exact ⟨some ⟨w.heap.size + 1 + 1, 0, none⟩, by simp [World.cell?, d2], .inr ⟨w.heap.size + 1 + 1, rfl, by simp [World.cell?, d1]⟩⟩
    have HN := hid hk
    have HW := hid hW
    clear hk hW d0 d1 d2
    go_wp2
    go_loopw [24] (fun z wr => ∃ k q : Nat, k ≤ 2 ∧ z = .int .i64 k ∧ wr = W.drewN q) (fun z _ => 2 - (intOf z).toNat)
    case atStart => exact ⟨0, 0, Nat.zero_le _, rfl, HW.out.symm⟩
    case round =>
      obtain ⟨k, q, hk, rfl, rfl⟩ := hrel
      by_cases hlt : k < 2
      · obtain ⟨p, hp, hnob⟩ := HN.out k hlt
        have HNB := hid hnob
        clear hnob
        go_wp2_with fail
        refine (Nob_Base (HNB.out.drewN _)).mono ?_
        rintro e w' ⟨rfl, q1, rfl⟩
        go_wp2_with fail
        refine (Nob_Last (by exact HNB.out)).mono ?_
        rintro e w' ⟨rfl, q2, rfl⟩
        go_wp2_with fail
        refine (Nob_Term (by exact HNB.out) _).mono ?_
        rintro e w' ⟨rfl, q3, rfl⟩
        go_wp2_with fail
        refine (Nob_Merge (by exact HNB.out) _ _ _).mono ?_
        rintro e w' ⟨rfl, q4, rfl⟩
        go_wp2_with (first
          | (go_at_call 27; refine (Nob_From (by exact HNB.out) _ _).mono ?_; rintro e w' ⟨rfl, q5, rfl⟩)
          | (go_at_call 16; refine (Nob_Fresh (by exact HNB.out) _ _).mono ?_; rintro e w' ⟨rfl, q6, rfl⟩)
          | (go_at_call 20; refine (Nob_Hint (by exact HNB.out) _).mono ?_; rintro e w' ⟨rfl, q7, rfl⟩)
          | (go_at_call 39; refine (Nob_Clone (by exact HNB.out)).mono ?_; rintro e w' ⟨rfl, q8, rfl⟩)
          | (go_at_call 33; refine (Nob_Add (by exact HNB.out) _).mono ?_; rintro e w' ⟨rfl, q9, rfl⟩)
          | (go_at_call 32; refine (Nob_Cut (by exact HNB.out) _).mono ?_; rintro e w' ⟨rfl, q10, rfl⟩)
          | (go_at_call 34; refine (Nob_Rebase (by exact HNB.out) _ _).mono ?_; rintro e w' ⟨rfl, q11, rfl⟩))
        go_roundw
        case rel => exact ⟨k + 1, _, by omega, by go_num, rfl⟩
        case measure => simp [intOf]; omega
      · go_wp2_with fail
        refine (awake_any _).mono ?_
        rintro e w2 ⟨rfl, hb2⟩
        go_wp2
        go_ret
        exact ⟨rfl, Ext.trans' hx (ext_of_drewN hb2)⟩
end Go.Proofs.Ytjcmgkdlkadfmaa
