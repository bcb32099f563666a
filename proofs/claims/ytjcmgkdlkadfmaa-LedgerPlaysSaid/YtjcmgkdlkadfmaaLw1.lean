/- The walks of the ledger's small functions. -/
import Derived.Test.YtjcmgkdlkadfmaaProg
import Derived.Test.YtjcmgkdlkadfmaaLs
namespace Go.Proofs.Ytjcmgkdlkadfmaa
open Go.RowKit
set_option linter.unusedVariables false
set_option linter.unusedSimpArgs false

set_option maxHeartbeats 400000 in
theorem made_nil (w : World) : Calls Try.prog 42 #[.pointer none] w fun e w' => e = .returned (.bool false) ∧ w = w' := by
  go_enter Try.func42, Try.ntmps42
  go_wp2
  go_ret
  exact ⟨rfl, rfl⟩

set_option maxHeartbeats 400000 in
theorem made_at (w : World) {b : Nat} {s : Bool} (h : w.cell? ⟨b, 3, none⟩ = some (.bool s)) : Calls Try.prog 42 #[.pointer (some ⟨b, 0, none⟩)] w fun e w' => e = .returned (.bool s) ∧ w = w' := by
  go_enter Try.func42, Try.ntmps42
  go_wp2
  go_ret
  exact ⟨rfl, rfl⟩

set_option maxHeartbeats 400000 in
theorem good_any (i t : Int) (w : World) : Calls Try.prog 44 #[.int .i64 i, .int .i64 t] w fun e w' => e = .returned (.bool (goodS i t)) ∧ w = w' := by
  go_enter Try.func44, Try.ntmps44
  go_wp2
  all_goals
    go_ret
    refine ⟨?_, rfl⟩
    unfold goodS
    simp [*]
    try omega

set_option maxHeartbeats 1000000 in
theorem rises_any (F : Nat → Prop) (i t : Int) (a : Option Addr) (n c : Nat) (l : List Ent) (w : World) (hi : In64 i) (hl : EsF F w a n c l) :
    Calls Try.prog 45 #[.int .i64 i, .int .i64 t, .slice a n c] w fun e w' => e = .returned (.bool (risesS i t l)) ∧ Ext w w' := by
  have hsz : n * 40 ≤ 140737488351232 := hl.2.2.1.2
  have hn : n ≤ l.length := by have := hl.1; omega
  have hn2 : l.length ≤ n := by have := hl.1; omega
  go_enter Try.func45, Try.ntmps45
  go_wp2
  go_loopw [0, 1, 11] (fun x y z wr => ∃ (k : Nat) (i' t' : Int), k ≤ n ∧ x = .int .i64 i' ∧ y = .int .i64 t' ∧ z = .int .i64 k ∧ In64 i' ∧ Hid (risesS i' t' (l.drop k) = risesS i t l) ∧ Ext w wr)
    (fun _ _ z _ => n - (intOf z).toNat)
  case atStart => exact ⟨0, i, t, Nat.zero_le _, rfl, rfl, rfl, hi, rfl, Below.refl _ _⟩
  case round =>
    obtain ⟨k, i', t', hk, rfl, rfl, rfl, hi', HS, hb⟩ := hrel
    obtain ⟨hi1, hi2⟩ := hi'
    by_cases hlt : k < n
    · obtain ⟨b, o, rfl, hF, hbl, hkl, ⟨hx1, hx2⟩, ⟨hy1, hy2⟩, hc0, hc1, a', n', c', hc2, hd⟩ := (hl.below hb).at_ hlt
      have hd1 := hd.1
      have hd2 : n' ≤ 140737488351232 := hd.2.2.1.2
      go_wp2
      all_goals first
        | (have hf : fitsS i' t' l[k] = false := by
             rw [← Bool.not_eq_true]; simp only [fitsS, Bool.and_eq_true, decide_eq_true_eq, beq_iff_eq]; omega
           go_ret
           refine ⟨?_, hb.alloc (by have := hb.size; omega) _⟩
           rw [← HS.out, risesS_drop i' t' l k hkl, hf]; rfl)
        | (have hf : fitsS i' t' l[k] = true := by
             simp only [fitsS, Bool.and_eq_true, decide_eq_true_eq, beq_iff_eq]; omega
           have he : l[k].i = wrap64 (i' + 1) := by assumption
           have hw1 : -9223372036854775808 ≤ wrap64 (i' + 1) := by rw [← he]; exact hx1
           have hw2 : wrap64 (i' + 1) ≤ 9223372036854775807 := by rw [← he]; exact hx2
           have HE := hid he
           clear he
           go_quiet (fail)
           go_wp2
           go_roundw
           case rel => exact ⟨k + 1, l[k].i, l[k].t, by omega, by rw [HE.out], rfl, by go_num, ⟨hx1, hx2⟩, by
             show risesS l[k].i l[k].t (l.drop (k + 1)) = _
             rw [← HS.out, risesS_drop i' t' l k hkl, hf]; rfl, below_drewN (hb.alloc (by have := hb.size; omega) _) _⟩
           case measure => simp [intOf]; omega)
    · go_wp2
      go_ret
      refine ⟨?_, hb⟩
      rw [← HS.out, List.drop_of_length_le (by omega)]; rfl
end Go.Proofs.Ytjcmgkdlkadfmaa
