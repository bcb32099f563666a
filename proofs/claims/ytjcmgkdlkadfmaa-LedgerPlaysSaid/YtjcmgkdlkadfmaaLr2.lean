/- The walks of the reference's Rises, Fresh, New, Hint. -/
import Derived.Test.YtjcmgkdlkadfmaaLr1
import Derived.Test.YtjcmgkdlkadfmaaLw5
namespace Go.Proofs.Ytjcmgkdlkadfmaa
open Go.RowKit
set_option linter.unusedVariables false
set_option linter.unusedSimpArgs false
attribute [local go_sem] bmax2 bmin2 bmax_two bmin_two

/-- What the reference's Rises answers: beyond the greatest index nothing goes on. -/
def rrisesS (i t : Int) (l : List Ent) : Bool := if i ≤ 1099511627776 then risesS i t l else l.isEmpty

set_option maxRecDepth 100000 in
set_option maxHeartbeats 4000000 in
theorem RRises_any (F : Nat → Prop) (i t : Int) (a : Option Addr) (n c : Nat) (l : List Ent) (w : World) (hi : In64 i) (hl : EsF F w a n c l) :
    Calls Try.prog 48 #[.int .i64 i, .int .i64 t, .slice a n c] w fun e w' => e = .returned (.bool (rrisesS i t l)) ∧ Ext w w' := by
  have hsz : n * 40 ≤ 140737488351232 := hl.2.2.1.2
  have hn : n ≤ l.length := by have := hl.1; omega
  have hn2 : l.length ≤ n := by have := hl.1; omega
  obtain ⟨hi1, hi2⟩ := hi
  obtain ⟨r, hr⟩ : ∃ r, r = rrisesS i t l := ⟨_, rfl⟩
  rw [← hr]
  by_cases him : i ≤ 1099511627776
  · have hr0 : r = risesS i t l := by rw [hr]; unfold rrisesS; rw [if_pos him]
    have HR := hid hr0
    clear hr hr0
    go_enter Try.func48, Try.ntmps48
    go_wp2
    go_loopw [1, 11] (fun y z wr => ∃ (k : Nat) (t' : Int), k ≤ n ∧ y = .int .i64 t' ∧ z = .int .i64 k ∧ Hid (risesS (i + k) t' (l.drop k) = r) ∧ Ext w wr)
      (fun _ z _ => n - (intOf z).toNat)
    case atStart => exact ⟨0, t, Nat.zero_le _, rfl, rfl, by rw [HR.out]; simp [Hid], Below.refl _ _⟩
    case round =>
      obtain ⟨k, t', hk, rfl, rfl, HS, hb⟩ := hrel
      by_cases hlt : k < n
      · obtain ⟨b, o, rfl, hF, hbl, hkl, ⟨hx1, hx2⟩, ⟨hy1, hy2⟩, hc0, hc1, a', n', c', hc2, hd⟩ := (hl.below hb).at_ hlt
        have hd1 := hd.1
        have hd2 : n' ≤ 140737488351232 := hd.2.2.1.2
        have hst := risesS_drop (i + k) t' l k hkl
        have hfit := fitsS_iff (i + k) t' l[k]
        generalize l[k] = E at *
        have hw : wrap64 (i + k + 1) = i + k + 1 := by unfold wrap64; omega
        rw [hw] at hfit
        have HF := hid hfit
        have HST := hid hst
        clear hw hst hfit
        go_wp2
        all_goals first
          | (have hf : fitsS (i + k) t' E = false := by
               rw [← Bool.not_eq_true, HF.out]
               try simp only [bne_iff_ne, ne_eq, Bool.not_eq_true, beq_iff_eq, beq_eq_false_iff_ne] at *
               try simp only [wrap64] at *
               omega
             go_ret
             refine ⟨?_, hb.alloc (by have := hb.size; omega) _⟩
             rw [← HS.out, HST.out, hf]; rfl)
          | (have he : E.i = i + k + 1 := by
               try simp only [bne_iff_ne, ne_eq, Bool.not_eq_true, beq_iff_eq, beq_eq_false_iff_ne] at *
               try simp only [wrap64] at *
               omega
             have hf : fitsS (i + k) t' E = true := by
               rw [HF.out]
               try simp only [bne_iff_ne, ne_eq, Bool.not_eq_true, beq_iff_eq, beq_eq_false_iff_ne] at *
               omega
             have HE := hid he
             clear he
             go_wp2
             go_roundw
             case rel => exact ⟨k + 1, E.t, by omega, rfl, by go_num, by
               have h1 := HS.out
               rw [HST.out, hf] at h1
               rw [← h1, HE.out]
               show risesS _ _ _ = (true && risesS _ _ _)
               rw [Bool.true_and]
               congr 1
               omega, hb.alloc (by have := hb.size; omega) _⟩
             case measure => simp [intOf]; omega)
      · go_wp2
        go_ret
        refine ⟨?_, hb⟩
        rw [← HS.out, List.drop_of_length_le (by omega)]; rfl
  · have hib : decide (1099511627776 < i) = true := by simp; omega
    cases l with
    | nil =>
      have hr0 : r = true := by rw [hr]; unfold rrisesS; rw [if_neg him]; rfl
      subst hr0
      have hn0 : n = 0 := by have := hl.1; simpa using this
      subst hn0
      clear hl hr him hn hn2 hsz
      go_enter Try.func48, Try.ntmps48
      go_wp2
      go_loopw [11] (fun z wr => z = .int .i64 0 ∧ wr = w) (fun z _ => 0)
      case atStart => exact ⟨rfl, rfl⟩
      case round =>
        obtain ⟨rfl, rfl⟩ := hrel
        go_wp2
        go_ret
        exact ⟨rfl, Below.refl _ _⟩
    | cons e l =>
      have hr0 : r = false := by rw [hr]; unfold rrisesS; rw [if_neg him]; rfl
      subst hr0
      have hpos : 0 < n := by simp at hn2; omega
      obtain ⟨b, o, rfl, hF, hbl, hkl, ⟨hx1, hx2⟩, ⟨hy1, hy2⟩, hc0, hc1, a', n', c', hc2, hd⟩ := hl.at_ hpos
      rw [Nat.zero_mul, Nat.add_zero] at hc0 hc1 hc2
      clear hr hn hn2 hd him
      generalize (e :: l)[0] = E at *
      clear hl
      go_enter Try.func48, Try.ntmps48
      go_wp2
      go_loopw [1, 11] (fun y z wr => y = .int .i64 t ∧ z = .int .i64 0 ∧ wr = w) (fun _ z _ => 0)
      case atStart => exact ⟨rfl, rfl, rfl⟩
      case round =>
        obtain ⟨rfl, rfl, rfl⟩ := hrel
        go_wp2
        go_ret
        exact ⟨rfl, ext_alloc _ _⟩

set_option maxHeartbeats 1000000 in
theorem RFresh_at {F : Nat → Prop} {w : World} {b : Nat} {s : LS} (h : RefAt F w b s) (x t : Int) :
    Calls Try.prog 17 #[.pointer (some ⟨b, 0, none⟩), .int .i64 x, .int .i64 t] w fun e w' =>
      e = .returned (.bool (s.fresh x t)) ∧ Ext w w' := by
  have hcall := RLast_at h
  unfold LS.fresh
  generalize s.lastI = z at *
  generalize s.lastT = y at *
  have HC := hid hcall
  clear h hcall
  by_cases hty : t = y
  · have htb : (t != y) = false := by simpa using hty
    go_enter Try.func17, Try.ntmps17
    have HT := hid hty
    clear hty
    go_wp2_with (go_at_call 43; refine Calls.mono HC.out ?_; rintro e w1 ⟨rfl, hb⟩)
    go_ret
    refine ⟨?_, hb⟩
    rw [HT.out]
    simp
  · have htb : (t != y) = true := by simpa using hty
    go_enter Try.func17, Try.ntmps17
    have HT := hid hty
    clear hty
    go_wp2_with (go_at_call 43; refine Calls.mono HC.out ?_; rintro e w1 ⟨rfl, hb⟩)
    go_ret
    refine ⟨?_, hb⟩
    simp [HT.out]
end Go.Proofs.Ytjcmgkdlkadfmaa
