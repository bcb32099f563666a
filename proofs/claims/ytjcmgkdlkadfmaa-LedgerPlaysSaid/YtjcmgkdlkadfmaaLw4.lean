/- The walks of Term, Fresh, Hint. -/
import Derived.Test.YtjcmgkdlkadfmaaLw3
import Derived.Test.YtjcmgkdlkadfmaaLs2
import Derived.Test.YtjcmgkdlkadfmaaLx
namespace Go.Proofs.Ytjcmgkdlkadfmaa
open Go.RowKit
set_option linter.unusedVariables false
set_option linter.unusedSimpArgs false

attribute [local go_sem] bmax2 bmin2 bmax_two bmin_two

theorem wrapi {x : Int} (h : -9223372036854775808 ≤ x ∧ x ≤ 9223372036854775807) : IntKind.i64.wrap x = x := by
  rw [IntKind.wrap_i64]; omega

set_option maxHeartbeats 1000000 in
theorem Term_at {F : Nat → Prop} {w : World} {b : Nat} {s : LS} (h : LedAt F w b s) (hok : s.Ok) (x : Int) (hx : In64 x) :
    Calls Try.prog 24 #[.pointer (some ⟨b, 0, none⟩), .int .i64 x] w fun e w' =>
      e = .returned (.tuple #[.int .i64 ((s.term x).getD 0), .bool (s.term x).isSome]) ∧ ∃ k, w' = w.drewN k := by
  obtain ⟨a, c, h0, h1, h2, h3, -, hl, -⟩ := h.cells
  obtain ⟨hx1, hx2⟩ := hx
  have hB := hok.bounds
  have hn := hl.2.2.1.2
  have hlast := hok.lastI_eq
  have hle := hok.last_le
  have H := hid h
  clear h
  generalize hz : s.lastI = z at *
  have hcall : ∀ W, LedAt F W b s → Calls Try.prog 19 #[.pointer (some ⟨b, 0, none⟩)] W fun e w' => e = .returned (.tuple #[.int .i64 z, .int .i64 s.lastT]) ∧ ∃ k, w' = W.drewN k := by
    intro W hW; rw [← hz]; exact Last_at hW
  have HC := hid hcall
  clear hcall hz
  by_cases c1 : x < s.i
  · have e : s.term x = none := by unfold LS.term; rw [if_pos c1]
    rw [e]
    clear e hlast hl
    go_enter Try.func24, Try.ntmps24
    go_wp2_with (first | (go_at_call 42; refine (made_led (F := F) (s := s) (by first | exact H.out | exact H.out.drewN _)).mono ?_; rintro e w' ⟨rfl, rfl⟩) | (go_at_call 19; refine (HC.out _ (by first | exact H.out | exact H.out.drewN _)).mono ?_; rintro e w' ⟨rfl, k, rfl⟩))
    go_ret2
    exact ⟨rfl, _, rfl⟩
  by_cases c2 : z < x
  · have e : s.term x = none := by
      unfold LS.term
      rw [if_neg c1, if_neg (by omega), List.getElem?_eq_none (by omega)]; rfl
    rw [e]
    clear e hlast hl
    go_enter Try.func24, Try.ntmps24
    go_wp2_with (first | (go_at_call 42; refine (made_led (F := F) (s := s) (by first | exact H.out | exact H.out.drewN _)).mono ?_; rintro e w' ⟨rfl, rfl⟩) | (go_at_call 19; refine (HC.out _ (by first | exact H.out | exact H.out.drewN _)).mono ?_; rintro e w' ⟨rfl, k, rfl⟩))
    go_ret2
    exact ⟨rfl, _, rfl⟩
  by_cases c3 : x = s.i
  · have e : s.term x = some s.t := by unfold LS.term; rw [if_neg c1, if_pos c3]
    rw [e]
    clear e hlast hl
    subst c3
    go_enter Try.func24, Try.ntmps24
    go_wp2_with (first | (go_at_call 42; refine (made_led (F := F) (s := s) (by first | exact H.out | exact H.out.drewN _)).mono ?_; rintro e w' ⟨rfl, rfl⟩) | (go_at_call 19; refine (HC.out _ (by first | exact H.out | exact H.out.drewN _)).mono ?_; rintro e w' ⟨rfl, k, rfl⟩))
    go_ret2
    exact ⟨rfl, _, rfl⟩
  · obtain ⟨j, hj⟩ : ∃ j, j = x - s.i - 1 := ⟨_, rfl⟩
    obtain ⟨p, o, rfl, -, -, hk, -, -, -, hc1, -⟩ := hl.at_ (k := j.toNat) (by omega)
    have e : s.term x = some s.l[j.toNat].t := by
      unfold LS.term
      rw [if_neg c1, if_neg c3, ← hj, List.getElem?_eq_getElem hk]; rfl
    rw [e]
    clear e hl
    generalize hy : s.l[j.toNat].t = y at *
    clear hy
    have hge : 0 ≤ j := by omega
    have hlt : j < (s.l.length : Int) := by omega
    have w1 : IntKind.i64.wrap (x - s.i) = x - s.i := wrapi (by omega)
    have w2 : IntKind.i64.wrap (x - s.i - 1) = j := by rw [hj]; exact wrapi (by omega)
    clear hj
    have c1b : decide (x < s.i) = false := by simpa using c1
    have c2b : decide (z < x) = false := by simpa using c2
    have c3b : (x == s.i) = false := by simpa using c3
    clear hlast c1 c2 c3
    go_enter Try.func24, Try.ntmps24
    go_wp2_with (first | (go_at_call 42; refine (made_led (F := F) (s := s) (by first | exact H.out | exact H.out.drewN _)).mono ?_; rintro e w' ⟨rfl, rfl⟩) | (go_at_call 19; refine (HC.out _ (by first | exact H.out | exact H.out.drewN _)).mono ?_; rintro e w' ⟨rfl, k, rfl⟩))
    go_quiet (fail)
    go_wp2
    go_ret2
    exact ⟨rfl, _, World.drewN_drewN _ _ _⟩

set_option maxHeartbeats 1000000 in
theorem Fresh_at {F : Nat → Prop} {w : World} {b : Nat} {s : LS} (h : LedAt F w b s) (x t : Int) :
    Calls Try.prog 16 #[.pointer (some ⟨b, 0, none⟩), .int .i64 x, .int .i64 t] w fun e w' =>
      e = .returned (.bool (s.fresh x t)) ∧ ∃ k, w' = w.drewN k := by
  have hcall : ∀ W, LedAt F W b s → Calls Try.prog 19 #[.pointer (some ⟨b, 0, none⟩)] W fun e w' => e = .returned (.tuple #[.int .i64 s.lastI, .int .i64 s.lastT]) ∧ ∃ k, w' = W.drewN k := fun W hW => Last_at hW
  unfold LS.fresh
  generalize s.lastI = z at *
  generalize s.lastT = y at *
  have H := hid h
  have HC := hid hcall
  clear h hcall
  go_enter Try.func16, Try.ntmps16
  go_wp2_with (first | (go_at_call 42; refine (made_led (F := F) (s := s) (by first | exact H.out | exact H.out.drewN _)).mono ?_; rintro e w' ⟨rfl, rfl⟩) | (go_at_call 19; refine (HC.out _ (by first | exact H.out | exact H.out.drewN _)).mono ?_; rintro e w' ⟨rfl, k, rfl⟩))
  all_goals
    go_ret
    refine ⟨?_, _, rfl⟩
    simp [*]
    try omega

set_option maxHeartbeats 2000000 in
theorem Hint_at {F : Nat → Prop} {w : World} {b : Nat} {s : LS} (h : LedAt F w b s) (hok : s.Ok) (x : Int) (hx : In64 x) :
    Calls Try.prog 20 #[.pointer (some ⟨b, 0, none⟩), .int .i64 x] w fun e w' =>
      e = .returned (.int .i64 (s.hint x)) ∧ ∃ k, w' = w.drewN k := by
  obtain ⟨a, c, h0, h1, h2, h3, -, -, -⟩ := h.cells
  obtain ⟨hx1, hx2⟩ := hx
  have hB := hok.bounds
  have hlast := hok.lastI_eq
  have hle := hok.last_le
  have hT : ∀ y W, LedAt F W b s → In64 y → Calls Try.prog 24 #[.pointer (some ⟨b, 0, none⟩), .int .i64 y] W fun e w' =>
      e = .returned (.tuple #[.int .i64 ((s.term y).getD 0), .bool (s.term y).isSome]) ∧ ∃ k, w' = W.drewN k := fun y W hW hy => Term_at hW hok y hy
  have hcall : ∀ W, LedAt F W b s → Calls Try.prog 19 #[.pointer (some ⟨b, 0, none⟩)] W fun e w' => e = .returned (.tuple #[.int .i64 s.lastI, .int .i64 s.lastT]) ∧ ∃ k, w' = W.drewN k := fun W hW => Last_at hW
  have H := hid h
  clear h h2
  unfold LS.hint
  generalize s.lastI = z at *
  have hz1 : s.i ≤ z := by omega
  have hz2 : z ≤ 1099511627776 := by omega
  have HL := hid hlast
  have HC := hid hcall
  have HT := hid hT
  have HO := hid hok
  clear hcall hlast hT hok hle
  by_cases c1 : z < x
  · rw [if_pos c1]
    go_enter Try.func20, Try.ntmps20
    go_wp2_with (first | (go_at_call 42; refine (made_led (F := F) (s := s) (by first | exact H.out | exact H.out.drewN _)).mono ?_; rintro e w' ⟨rfl, rfl⟩) | (go_at_call 19; refine (HC.out _ (by first | exact H.out | exact H.out.drewN _)).mono ?_; rintro e w' ⟨rfl, k, rfl⟩))
    go_ret
    exact ⟨rfl, _, rfl⟩
  · rw [if_neg c1]
    obtain ⟨m, hm⟩ : ∃ m, m = max x (s.i + 1) := ⟨_, rfl⟩
    rw [← hm]
    have hm1 : s.i + 1 ≤ m := by omega
    have hm2 : m ≤ 1099511627777 := by omega
    obtain ⟨d, hd⟩ : ∃ d : Nat, m = s.i + 1 + d := ⟨(m - (s.i + 1)).toNat, by omega⟩
    have hdn : (m - (s.i + 1)).toNat = d := by omega
    rw [hdn]
    have hm' : max x (s.i + 1) = m := hm.symm
    have HD := hid hd
    clear hm hd hdn
    by_cases hs : (s.term m).isSome = true
    · rw [if_pos hs]
      generalize hG : (s.term m).getD 0 = tt at *
      obtain ⟨r, hr⟩ : ∃ r, r = downG (fun y => (s.term y).getD 0) tt (s.i + 1) d := ⟨_, rfl⟩
      rw [← hr]
      have HR := hid hr
      clear hr
      have hcm : ∀ W, LedAt F W b s → Calls Try.prog 24 #[.pointer (some ⟨b, 0, none⟩), .int .i64 m] W fun e w' =>
          e = .returned (.tuple #[.int .i64 tt, .bool true]) ∧ ∃ k, w' = W.drewN k := fun W hW => by
        have := HT.out m W hW ⟨by omega, by omega⟩
        rw [hG, hs] at this
        exact this
      have HCM := hid hcm
      clear hcm hs hG
      go_enter Try.func20, Try.ntmps20
      go_wp2_with (first | (go_at_call 42; refine (made_led (F := F) (s := s) (by first | exact H.out | exact H.out.drewN _)).mono ?_; rintro e w' ⟨rfl, rfl⟩) | (go_at_call 19; refine (HC.out _ (by first | exact H.out | exact H.out.drewN _)).mono ?_; rintro e w' ⟨rfl, k, rfl⟩) | (go_at_call 24; refine (HCM.out _ (H.out.drewN _)).mono ?_; rintro e w' ⟨rfl, k2, rfl⟩))
      clear hm'
      go_loopw [1] (fun y wr => ∃ j : Nat, j ≤ d ∧ y = .int .i64 (s.i + 1 + j) ∧ Hid (r = downG (fun y => (s.term y).getD 0) tt (s.i + 1) j) ∧ ∃ q, wr = w.drewN q) (fun y _ => (intOf y - s.i).toNat)
      case atStart => exact ⟨d, Nat.le_refl _, by rw [← HD.out], HR.out, _, rfl⟩
      case round =>
        obtain ⟨j, hj, rfl, HJ, q, rfl⟩ := hrel
        have hdd := HD.out
        have hjd : s.i + 1 + (j : Int) ≤ m := by omega
        clear hdd
        cases j with
        | zero =>
          go_wp2
          go_ret
          exact ⟨by rw [HJ.out]; simp [downG], _, rfl⟩
        | succ j =>
          have e1 : ((j + 1 : Nat) : Int) = (j : Int) + 1 := by omega
          rw [e1] at *
          clear e1
          have hjd2 : s.i + 1 + (j : Int) + 1 ≤ m := by omega
          have hcj := HT.out (s.i + 1 + j)
          generalize hG : (s.term (s.i + 1 + j)).getD 0 = tj at *
          generalize (s.term (s.i + 1 + j)).isSome = bj at *
          have hst : downG (fun y => (s.term y).getD 0) tt (s.i + 1) (j + 1) = if tj = tt then downG (fun y => (s.term y).getD 0) tt (s.i + 1) j else s.i + 1 + (j + 1) := by
            rw [← hG]; rfl
          have HCJ := hid hcj
          have HST := hid hst
          clear hcj hst hG hjd
          by_cases htt : tj = tt
          · subst htt
            go_wp2_with fail
            rw [show s.i + 1 + ((j : Int) + 1) - 1 = s.i + 1 + (j : Int) from by omega]
            refine (HCJ.out _ (H.out.drewN _) ⟨by omega, by omega⟩).mono ?_
            rintro e w' ⟨rfl, k3, rfl⟩
            go_wp2
            go_roundw
            case rel => exact ⟨j, by omega, by rw [show s.i + 1 + ((j : Int) + 1) - 1 = s.i + 1 + (j : Int) from by omega], by rw [HJ.out, HST.out]; simp [Hid], by first | exact ⟨_, rfl⟩ | exact ⟨_, World.drewN_drewN _ _ _⟩⟩
            case measure => simp [intOf]; omega
          · have hbt : (tj == tt) = false := by simpa using htt
            go_wp2_with fail
            rw [show s.i + 1 + ((j : Int) + 1) - 1 = s.i + 1 + (j : Int) from by omega]
            refine (HCJ.out _ (H.out.drewN _) ⟨by omega, by omega⟩).mono ?_
            rintro e w' ⟨rfl, k3, rfl⟩
            go_wp2
            go_ret
            exact ⟨by rw [HJ.out, HST.out]; simp [htt], by first | exact ⟨_, rfl⟩ | exact ⟨_, World.drewN_drewN _ _ _⟩⟩
    · have hsf : (s.term m).isSome = false := by simpa using hs
      rw [if_neg hs]
      generalize hG : (s.term m).getD 0 = tt at *
      have hcm : ∀ W, LedAt F W b s → Calls Try.prog 24 #[.pointer (some ⟨b, 0, none⟩), .int .i64 m] W fun e w' =>
          e = .returned (.tuple #[.int .i64 tt, .bool false]) ∧ ∃ k, w' = W.drewN k := fun W hW => by
        have := HT.out m W hW ⟨by omega, by omega⟩
        rw [hG, hsf] at this
        exact this
      have HCM := hid hcm
      clear hcm hs hsf hG
      go_enter Try.func20, Try.ntmps20
      go_wp2_with (first | (go_at_call 42; refine (made_led (F := F) (s := s) (by first | exact H.out | exact H.out.drewN _)).mono ?_; rintro e w' ⟨rfl, rfl⟩) | (go_at_call 19; refine (HC.out _ (by first | exact H.out | exact H.out.drewN _)).mono ?_; rintro e w' ⟨rfl, k, rfl⟩) | (go_at_call 24; refine (HCM.out _ (H.out.drewN _)).mono ?_; rintro e w' ⟨rfl, k2, rfl⟩))
      go_loopw [1] (fun y wr => y = .int .i64 m ∧ ∃ q, wr = w.drewN q) (fun y _ => 0)
      case atStart => exact ⟨rfl, _, rfl⟩
      case round =>
        obtain ⟨rfl, q, rfl⟩ := hrel
        go_wp2
        go_ret
        exact ⟨rfl, _, rfl⟩
end Go.Proofs.Ytjcmgkdlkadfmaa
