/- The walk of Merge. -/
import Derived.Test.YtjcmgkdlkadfmaaLw7
namespace Go.Proofs.Ytjcmgkdlkadfmaa
open Go.RowKit
set_option linter.unusedVariables false
set_option linter.unusedSimpArgs false
attribute [local go_sem] bmax2 bmin2 bmax_two bmin_two

theorem OwnE.base {ent : TypeId} {B B' : Nat} {w : World} {v : Value} {l : List Ent} (h : OwnE ent B w v l) (hB : B' ≤ B) : OwnE ent B' w v l := by
  rcases h with h | ⟨g, cap, h1, h2, h3⟩
  · exact .inl h
  · exact .inr ⟨g, cap, h1, by omega, h3⟩
/-- What Merge answers. -/
def MergePost (w : World) (r : Int × List Ent × Bool) (e : Ending) (w' : World) : Prop :=
  ∃ v, e = .returned (.tuple #[.int .i64 r.1, v, .bool r.2.2]) ∧ OwnE 54 w.heap.size w' v r.2.1 ∧ Ext w w'

set_option maxHeartbeats 2000000 in
theorem Merge_bad {F G : Nat → Prop} {w : World} {b : Nat} {s : LS} (h : LedAt F w b s) (hok : s.Ok) (x t : Int) (hx : In64 x) {a : Option Addr} {n c : Nat} {more : List Ent} (hm : EsF G w a n c more)
    (hr : risesS x t more = false ∨ (s.lastI < x ∨ (s.i ≤ x ∧ s.term x ≠ some t))) :
    Calls Try.prog 30 #[.pointer (some ⟨b, 0, none⟩), .int .i64 x, .int .i64 t, .slice a n c] w (MergePost w (0, [], false)) := by
  obtain ⟨al, cl, h0, h1, h2, h3, -, -, hbl⟩ := h.cells
  have hB := hok.bounds
  have hlast := hok.lastI_eq
  have hrc := rises_any G x t a n c more w hx hm
  have hcall : ∀ W, LedAt F W b s → Calls Try.prog 19 #[.pointer (some ⟨b, 0, none⟩)] W fun e w' => e = .returned (.tuple #[.int .i64 s.lastI, .int .i64 s.lastT]) ∧ ∃ k, w' = W.drewN k := fun W hW => Last_at hW
  have hT := fun W (hW : LedAt F W b s) => Term_at hW hok x hx
  have HO := hid h
  have hz1 : s.i ≤ s.lastI := by omega
  generalize s.lastI = z at *
  generalize s.lastT = y at *
  have HC := hid hcall
  clear hcall h hlast hok hm
  by_cases hrs : risesS x t more = true
  · rw [hrs] at hrc
    have hr : z < x ∨ (s.i ≤ x ∧ s.term x ≠ some t) := by
      rcases hr with hr | hr
      · rw [hrs] at hr; cases hr
      · exact hr
    have HR := hid hrc
    clear hrc hrs
    by_cases hzx : z < x
    · generalize (s.term x).getD 0 = tv at *
      generalize (s.term x).isSome = tb at *
      have HT := hid hT
      clear hT hr hB hx
      go_enter Try.func30, Try.ntmps30
      go_wp2_with (first
        | (go_at_call 42; refine (made_led (F := F) (s := s) (by first | exact HO.out | exact HO.out.drewN _)).mono ?_; rintro e w' ⟨rfl, rfl⟩)
        | (go_at_call 19; refine (HC.out _ (by first | exact HO.out | exact HO.out.drewN _ | exact HO.out.below hb1 | exact (HO.out.below hb1).drewN _)).mono ?_; rintro e w' ⟨rfl, k, rfl⟩)
        | (go_at_call 45; refine Calls.mono HR.out ?_; rintro e w1 ⟨rfl, hb1⟩; have h0' := (hb1.cell (p := ⟨b, 0, none⟩) hbl).trans h0)
        | (go_at_call 24; refine Calls.mono (HT.out _ (by first | exact HO.out | exact HO.out.drewN _ | exact HO.out.below hb1 | exact (HO.out.below hb1).drewN _)) ?_; rintro e w' ⟨rfl, k2, rfl⟩))
      go_ret3
      exact ⟨_, rfl, .inl ⟨rfl, rfl⟩, below_drewN hb1 _⟩
    · have hr2 : s.i ≤ x ∧ s.term x ≠ some t := by
        rcases hr with hr | hr
        · exact absurd hr hzx
        · exact hr
      obtain ⟨hsx, hne⟩ := hr2
      cases ho : s.term x with
      | none =>
        rw [ho] at hT
        have HT := hid hT
        clear hT hr hne ho hB hx
        go_enter Try.func30, Try.ntmps30
        go_wp2_with (first
          | (go_at_call 42; refine (made_led (F := F) (s := s) (by first | exact HO.out | exact HO.out.drewN _)).mono ?_; rintro e w' ⟨rfl, rfl⟩)
          | (go_at_call 19; refine (HC.out _ (by first | exact HO.out | exact HO.out.drewN _ | exact HO.out.below hb1 | exact (HO.out.below hb1).drewN _)).mono ?_; rintro e w' ⟨rfl, k, rfl⟩)
          | (go_at_call 45; refine Calls.mono HR.out ?_; rintro e w1 ⟨rfl, hb1⟩; have h0' := (hb1.cell (p := ⟨b, 0, none⟩) hbl).trans h0)
          | (go_at_call 24; refine Calls.mono (HT.out _ (by first | exact HO.out | exact HO.out.drewN _ | exact HO.out.below hb1 | exact (HO.out.below hb1).drewN _)) ?_; rintro e w' ⟨rfl, k2, rfl⟩))
        go_ret3
        exact ⟨_, rfl, .inl ⟨rfl, rfl⟩, below_drewN hb1 _⟩
      | some t' =>
        rw [ho] at hT
        have htt : (t' == t) = false := by
          rw [ho] at hne
          simpa using hne
        have htt2 : (t' != t) = true := by
          rw [bne, htt]; rfl
        have HT := hid hT
        clear hT hr hne ho hB hx
        go_enter Try.func30, Try.ntmps30
        go_wp2_with (first
          | (go_at_call 42; refine (made_led (F := F) (s := s) (by first | exact HO.out | exact HO.out.drewN _)).mono ?_; rintro e w' ⟨rfl, rfl⟩)
          | (go_at_call 19; refine (HC.out _ (by first | exact HO.out | exact HO.out.drewN _ | exact HO.out.below hb1 | exact (HO.out.below hb1).drewN _)).mono ?_; rintro e w' ⟨rfl, k, rfl⟩)
          | (go_at_call 45; refine Calls.mono HR.out ?_; rintro e w1 ⟨rfl, hb1⟩; have h0' := (hb1.cell (p := ⟨b, 0, none⟩) hbl).trans h0)
          | (go_at_call 24; refine Calls.mono (HT.out _ (by first | exact HO.out | exact HO.out.drewN _ | exact HO.out.below hb1 | exact (HO.out.below hb1).drewN _)) ?_; rintro e w' ⟨rfl, k2, rfl⟩))
        go_ret3
        exact ⟨_, rfl, .inl ⟨rfl, rfl⟩, below_drewN hb1 _⟩
  · have hrf : risesS x t more = false := by rw [← Bool.not_eq_true]; exact hrs
    rw [hrf] at hrc
    have HR := hid hrc
    clear hrc hrs hrf hr hB hx hT
    go_enter Try.func30, Try.ntmps30
    go_wp2_with (first
      | (go_at_call 42; refine (made_led (F := F) (s := s) (by first | exact HO.out | exact HO.out.drewN _)).mono ?_; rintro e w' ⟨rfl, rfl⟩)
      | (go_at_call 45; refine Calls.mono HR.out ?_; rintro e w1 ⟨rfl, hb1⟩))
    go_ret3
    exact ⟨_, rfl, .inl ⟨rfl, rfl⟩, hb1⟩

set_option maxRecDepth 100000 in
set_option maxHeartbeats 4000000 in
theorem Merge_ok {F G : Nat → Prop} {w : World} {b : Nat} {s : LS} (h : LedAt F w b s) (hok : s.Ok) (x t : Int) (hx : In64 x) {a : Option Addr} {n c : Nat} {more : List Ent} (hm : EsF G w a n c more)
    (hr : risesS x t more = true) (hzx : ¬ s.lastI < x) (htt : s.i ≤ x → s.term x = some t) :
    Calls Try.prog 30 #[.pointer (some ⟨b, 0, none⟩), .int .i64 x, .int .i64 t, .slice a n c] w (MergePost w (mergeGo s more)) := by
  obtain ⟨al, cl, h0, h1, h2, h3, -, -, hbl⟩ := h.cells
  have hB := hok.bounds
  have hlast := hok.lastI_eq
  have hle := hok.last_le
  have hrc := rises_any G x t a n c more w hx hm
  rw [hr] at hrc
  have hix := rises_ix more x t hx.1 (by omega) hr
  have hcall : ∀ W, LedAt F W b s → Calls Try.prog 19 #[.pointer (some ⟨b, 0, none⟩)] W fun e w' => e = .returned (.tuple #[.int .i64 s.lastI, .int .i64 s.lastT]) ∧ ∃ k, w' = W.drewN k := fun W hW => Last_at hW
  have hT := fun (x : Int) (hx : In64 x) W (hW : LedAt F W b s) => Term_at hW hok x hx
  have hT1 : ∃ tb, ∃ tt : Int, (s.i ≤ x → tb = true ∧ tt = t) ∧ ∀ W, LedAt F W b s → Calls Try.prog 24 #[.pointer (some ⟨b, 0, none⟩), .int .i64 x] W fun e w' =>
      e = .returned (.tuple #[.int .i64 tt, .bool tb]) ∧ ∃ k, w' = W.drewN k :=
    ⟨(s.term x).isSome, (s.term x).getD 0, fun hsx => by rw [htt hsx]; exact ⟨rfl, rfl⟩, fun W hW => Term_at hW hok x hx⟩
  have HO := hid h
  have hzx' : decide (s.lastI < x) = false := by simpa using hzx
  generalize s.lastI = z at *
  generalize s.lastT = y at *
  have hnn := hm.1
  have h40 := hm.2.2.1.2
  have hcc := hm.2.1
  obtain ⟨r, hrr⟩ : ∃ r, r = mergeGo s more := ⟨_, rfl⟩
  rw [← hrr]
  have HC := hid hcall
  have HR := hid hrc
  have HM := hid hm
  have HIX := hid hix
  have HT := hid hT
  have HRR := hid hrr
  have HN := hid hnn
  obtain ⟨tb, tt, htb, hT1⟩ := hT1
  have HTB := hid htb
  have HT1 := hid hT1
  clear hcall h hlast hle hok hm hrc hix hT hrr hnn htb hT1 htt hr hzx
  have hcase : (decide (s.i ≤ x) = true ∧ tb = true ∧ tt = t) ∨ decide (s.i ≤ x) = false := by
    by_cases hsx : s.i ≤ x
    · exact .inl ⟨by simpa using hsx, HTB.out hsx⟩
    · exact .inr (by simpa using hsx)
  clear HTB
  rcases hcase with ⟨hxb, rfl, rfl⟩ | hxb
  all_goals
    go_enter Try.func30, Try.ntmps30
    go_wp2_with (first
      | (go_at_call 42; refine (made_led (F := F) (s := s) (by first | exact HO.out | exact HO.out.drewN _)).mono ?_; rintro e w' ⟨rfl, rfl⟩)
      | (go_at_call 19; refine (HC.out _ (by first | exact HO.out | exact HO.out.drewN _ | exact HO.out.below hb1 | exact (HO.out.below hb1).drewN _)).mono ?_; rintro e w' ⟨rfl, k, rfl⟩)
      | (go_at_call 45; refine Calls.mono HR.out ?_; rintro e w1 ⟨rfl, hb1⟩; have h0' := (hb1.cell (p := ⟨b, 0, none⟩) hbl).trans h0)
      | (go_at_call 24; refine Calls.mono (HT1.out _ (by first | exact HO.out | exact HO.out.drewN _ | exact HO.out.below hb1 | exact (HO.out.below hb1).drewN _)) ?_; rintro e w' ⟨rfl, k2, rfl⟩))
    clear HC HR HT1
    go_loopw [65] (fun z wr => ∃ k : Nat, k ≤ n ∧ z = .int .i64 k ∧ Hid (r = mergeGo s (more.drop k)) ∧ Ext w wr) (fun z _ => n - (intOf z).toNat)
    case atStart => exact ⟨0, Nat.zero_le _, rfl, HRR.out, below_drewN hb1 _⟩
    case round =>
      clear hb1 h0'
      obtain ⟨k, hk, rfl, HK, hb⟩ := hrel
      by_cases hlt : k < n
      · obtain ⟨p, o, rfl, -, hpl, hkl, ⟨ei1, ei2⟩, ⟨et1, et2⟩, hc0, hc1, a', n', c', hc2, hd⟩ := (HM.out.below hb).at_ hlt
        have hixk := HIX.out k hkl
        have hstep := mergeGo_drop s more k hkl
        generalize hE : more[k] = E at *
        have HE := hid hE
        clear hE hd
        have hA := HT.out E.i ⟨ei1, ei2⟩
        have hB := HT.out (E.i - 1) ⟨by have := hx.1; omega, by omega⟩
        have hbl' : b < wr.heap.size := by have := hb.size; omega
        have h0r := (hb.cell (p := ⟨b, 0, none⟩) hbl).trans h0
        have hbx : Ext w (wr.alloc (.cells #[.int .i64 E.i, .int .i64 E.t, .slice a' n' c'] 54)) := hb.alloc (by have := hb.size; omega) _
        have hw1 : IntKind.i64.wrap (E.i - 1) = E.i - 1 := wrapi (by have := hx.1; omega)
        generalize (s.term (E.i - 1)).isSome = ab at *
        generalize (s.term (E.i - 1)).getD 0 = av at *
        have HB := hid hB
        clear hB hixk
        by_cases c1 : E.i ≤ s.i
        · rw [if_pos (.inl c1)] at hstep
          have HSTEP := hid (HK.out.trans hstep)
          generalize (s.term E.i).isSome = bb at *
          generalize (s.term E.i).getD 0 = bv at *
          have HA := hid hA
          have c1b : decide (E.i ≤ s.i) = true := by simpa using c1
          clear hA hstep c1
          go_wp2_with fail
          refine Calls.mono (HA.out _ (HO.out.below hbx)) ?_
          rintro e w' ⟨rfl, q1, rfl⟩
          go_wp2_with fail
          refine Calls.mono (HB.out _ ((HO.out.below hbx).drewN _)) ?_
          rintro e w' ⟨rfl, q2, rfl⟩
          go_wp2_with fail
          go_quiet (fail)
          go_wp2
          go_roundw
          case rel => exact ⟨k + 1, by omega, by go_num, HSTEP.out, below_drewN hbx _⟩
          case measure => simp [intOf]; omega
        · have c1b : decide (E.i ≤ s.i) = false := by simpa using c1
          cases ho : s.term E.i with
          | none =>
            rw [ho] at hA hstep
            rw [if_neg (by rintro (h | h); exact c1 h; cases h)] at hstep
            have HA := hid hA
            clear hA ho c1
            by_cases c2 : E.t < av
            · rw [if_pos c2] at hstep
              have HSTEP := hid (HK.out.trans hstep)
              clear hstep
              go_wp2_with fail
              refine Calls.mono (HA.out _ (HO.out.below hbx)) ?_
              rintro e w' ⟨rfl, q1, rfl⟩
              go_wp2_with fail
              refine Calls.mono (HB.out _ ((HO.out.below hbx).drewN _)) ?_
              rintro e w' ⟨rfl, q2, rfl⟩
              go_wp2_with fail
              go_quiet (fail)
              go_wp2
              go_ret3
              rw [HSTEP.out]
              exact ⟨_, rfl, .inl ⟨rfl, rfl⟩, below_drewN hbx _⟩
            · rw [if_neg c2, if_neg (by simp)] at hstep
              have HSTEP := hid (HK.out.trans hstep)
              clear hstep
              have c2b : decide (E.t < av) = false := by simpa using c2
              go_wp2_with fail
              refine Calls.mono (HA.out _ (HO.out.below hbx)) ?_
              rintro e w' ⟨rfl, q1, rfl⟩
              go_wp2_with fail
              refine Calls.mono (HB.out _ ((HO.out.below hbx).drewN _)) ?_
              rintro e w' ⟨rfl, q2, rfl⟩
              go_wp2_with fail
              go_quiet (fail)
              go_wp2_with fail
              refine (own_any G _ _ _ (more.drop k) _ (by exact ((HM.out.below hbx).drewN _).cut hk)).mono ?_
              rintro e w2 ⟨v, rfl, hown, hb2⟩
              go_wp2
              go_ret3
              rw [HSTEP.out]
              exact ⟨_, rfl, hown.base (by have := hbx.size; exact this), Ext.trans' hbx (ext_of_drewN hb2)⟩
          | some t0 =>
            rw [ho] at hA hstep
            have HA := hid hA
            clear hA
            by_cases c3 : t0 = E.t
            · rw [if_pos (.inr (by rw [c3]))] at hstep
              have HSTEP := hid (HK.out.trans hstep)
              have c3b : (t0 == E.t) = true := by simpa using c3
              clear hstep c3 ho
              go_wp2_with fail
              refine Calls.mono (HA.out _ (HO.out.below hbx)) ?_
              rintro e w' ⟨rfl, q1, rfl⟩
              go_wp2_with fail
              refine Calls.mono (HB.out _ ((HO.out.below hbx).drewN _)) ?_
              rintro e w' ⟨rfl, q2, rfl⟩
              go_wp2_with fail
              go_quiet (fail)
              go_wp2
              go_roundw
              case rel => exact ⟨k + 1, by omega, by go_num, HSTEP.out, below_drewN hbx _⟩
              case measure => simp [intOf]; omega
            · rw [if_neg (by rintro (h | h); exact c1 h; exact c3 (by injection h))] at hstep
              have c3b : (t0 == E.t) = false := by simpa using c3
              clear c3 ho c1
              by_cases c2 : E.t < av
              · rw [if_pos c2] at hstep
                have HSTEP := hid (HK.out.trans hstep)
                clear hstep
                go_wp2_with fail
                refine Calls.mono (HA.out _ (HO.out.below hbx)) ?_
                rintro e w' ⟨rfl, q1, rfl⟩
                go_wp2_with fail
                refine Calls.mono (HB.out _ ((HO.out.below hbx).drewN _)) ?_
                rintro e w' ⟨rfl, q2, rfl⟩
                go_wp2_with fail
                go_quiet (fail)
                go_wp2
                go_ret3
                rw [HSTEP.out]
                exact ⟨_, rfl, .inl ⟨rfl, rfl⟩, below_drewN hbx _⟩
              · rw [if_neg c2, if_pos (by simp)] at hstep
                have HSTEP := hid (HK.out.trans hstep)
                have c2b : decide (E.t < av) = false := by simpa using c2
                clear hstep
                go_wp2_with fail
                refine Calls.mono (HA.out _ (HO.out.below hbx)) ?_
                rintro e w' ⟨rfl, q1, rfl⟩
                go_wp2_with fail
                refine Calls.mono (HB.out _ ((HO.out.below hbx).drewN _)) ?_
                rintro e w' ⟨rfl, q2, rfl⟩
                go_wp2_with fail
                go_quiet (fail)
                go_wp2_with fail
                have hcx : (wr.alloc (.cells #[.int .i64 E.i, .int .i64 E.t, .slice a' n' c'] 54)).cell? ⟨wr.heap.size, 0, none⟩ = some (.int .i64 E.i) := by
                  unfold World.cell?; rw [heap_alloc_new]; rfl
                have hlx : wr.heap.size < (wr.alloc (.cells #[.int .i64 E.i, .int .i64 E.t, .slice a' n' c'] 54)).heap.size := by simp
                go_region_held3 (fun w' => w'.cell? ⟨wr.heap.size, 0, none⟩ = some (.int .i64 E.i))
                  (first | go_keep | exact (hb2.cell (p := ⟨wr.heap.size, 0, none⟩) hlx).trans hcx)
                  ((go_at_call 46; refine (own_any G _ _ _ (more.drop k) _ (by rw [if_neg (by omega)]; exact ((HM.out.below hbx).drewN _).cut hk)).mono ?_; rintro e w2 ⟨v, rfl, hown, hb2⟩))
                all_goals
                  go_wp2
                  go_ret3
                  rw [HSTEP.out]
                  exact ⟨_, rfl, hown.base (by have := hbx.size; exact this), Ext.trans' hbx (ext_of_drewN hb2)⟩
      · go_wp2
        go_ret3
        rw [HK.out, List.drop_eq_nil_of_le (by have := HN.out; omega)]
        exact ⟨_, rfl, .inl ⟨rfl, rfl⟩, hb⟩
end Go.Proofs.Ytjcmgkdlkadfmaa
