/- The walks of the reference's Merge. -/
import Derived.Test.YtjcmgkdlkadfmaaLr6
import Derived.Test.YtjcmgkdlkadfmaaLw8
namespace Go.Proofs.Ytjcmgkdlkadfmaa
open Go.RowKit
set_option linter.unusedVariables false
set_option linter.unusedSimpArgs false
attribute [local go_sem] bmax2 bmin2 bmax_two bmin_two

/-- What the reference answers, in memory that is shared. -/
def RMergePost (G : Nat → Prop) (w : World) (r : Int × List Ent × Bool) (e : Ending) (w' : World) : Prop :=
  ∃ a c, e = .returned (.tuple #[.int .i64 r.1, .slice a r.2.1.length c, .bool r.2.2]) ∧ EsF G w' a r.2.1.length c r.2.1 ∧ Ext w w'

def rmergeGo (s : LS) : List Ent → Int × List Ent × Bool
  | [] => (0, [], true)
  | e :: l => if e.i ≤ s.i ∨ s.term e.i = some e.t then rmergeGo s l else
      if e.i = s.i + 1 ∧ e.t < s.t then (0, [], false) else if (s.term e.i).isSome then (e.i, e :: l, true) else (0, e :: l, true)
theorem rmergeGo_drop (s : LS) (l : List Ent) (k : Nat) (hk : k < l.length) :
    rmergeGo s (l.drop k) = if l[k].i ≤ s.i ∨ s.term l[k].i = some l[k].t then rmergeGo s (l.drop (k + 1)) else
      if l[k].i = s.i + 1 ∧ l[k].t < s.t then (0, [], false) else if (s.term l[k].i).isSome then (l[k].i, l.drop k, true) else (0, l.drop k, true) := by
  rw [List.drop_eq_getElem_cons hk]; rfl
theorem rmergeGo_eq {s : LS} (hok : s.Ok) : ∀ (l : List Ent) (x t : Int), -9223372036854775808 ≤ x → x ≤ 1099511627776 → risesS x t l = true → (s.i < x → s.term x = some t) → rmergeGo s l = mergeGo s l := by
  intro l
  induction l with
  | nil => intro x t _ _ _ _; rfl
  | cons e l ih =>
    intro x t hx0 hx1 hr hp
    simp only [risesS, Bool.and_eq_true] at hr
    obtain ⟨hf, hr⟩ := hr
    rw [fitsS_iff] at hf
    obtain ⟨e1, e2, e3, e4, e5, e6⟩ := hf
    have hw : wrap64 (x + 1) = x + 1 := by unfold wrap64; omega
    rw [hw] at e1
    unfold rmergeGo mergeGo
    by_cases hc : e.i ≤ s.i ∨ s.term e.i = some e.t
    · rw [if_pos hc, if_pos hc]
      refine ih e.i e.t (by omega) e2 hr fun hlt => ?_
      rcases hc with hc | hc
      · omega
      · exact hc
    · rw [if_neg hc, if_neg hc]
      have hgt : s.i < e.i := by
        by_cases h : e.i ≤ s.i
        · exact absurd (.inl h) hc
        · omega
      have he : e.i - 1 = x := by omega
      rw [he]
      by_cases hxs : x = s.i
      · subst hxs
        rw [LS.term_base]
        simp only [Option.getD_some]
        by_cases ht : e.t < s.t
        · rw [if_pos ⟨e1, ht⟩, if_pos ht]
        · rw [if_neg (fun h => ht h.2), if_neg ht]
      · have := hp (by omega)
        rw [this]
        simp only [Option.getD_some]
        rw [if_neg (c := e.i = s.i + 1 ∧ e.t < s.t) (by rintro ⟨h, -⟩; omega), if_neg (c := e.t < t) (by omega)]

theorem rmerge_step (s : LS) (l : List Ent) (k : Nat) (hk : k < l.length) :
    (decide (l[k].i ≤ s.i) = true ∧ rmergeGo s (l.drop k) = rmergeGo s (l.drop (k + 1))) ∨
    (decide (l[k].i ≤ s.i) = false ∧ (s.term l[k].i).isSome = true ∧ ((s.term l[k].i).getD 0 == l[k].t) = true ∧ rmergeGo s (l.drop k) = rmergeGo s (l.drop (k + 1))) ∨
    (decide (l[k].i ≤ s.i) = false ∧ (s.term l[k].i).isSome = false ∧ (l[k].i == s.i + 1) = true ∧ decide (l[k].t < s.t) = true ∧ rmergeGo s (l.drop k) = (0, [], false)) ∨
    (decide (l[k].i ≤ s.i) = false ∧ (s.term l[k].i).isSome = false ∧ (l[k].i == s.i + 1) = true ∧ decide (l[k].t < s.t) = false ∧ rmergeGo s (l.drop k) = (0, l.drop k, true)) ∨
    (decide (l[k].i ≤ s.i) = false ∧ (s.term l[k].i).isSome = false ∧ (l[k].i == s.i + 1) = false ∧ rmergeGo s (l.drop k) = (0, l.drop k, true)) ∨
    (decide (l[k].i ≤ s.i) = false ∧ (s.term l[k].i).isSome = true ∧ ((s.term l[k].i).getD 0 == l[k].t) = false ∧ (l[k].i == s.i + 1) = true ∧ decide (l[k].t < s.t) = true ∧ rmergeGo s (l.drop k) = (0, [], false)) ∨
    (decide (l[k].i ≤ s.i) = false ∧ (s.term l[k].i).isSome = true ∧ ((s.term l[k].i).getD 0 == l[k].t) = false ∧ (l[k].i == s.i + 1) = true ∧ decide (l[k].t < s.t) = false ∧ rmergeGo s (l.drop k) = (l[k].i, l.drop k, true)) ∨
    (decide (l[k].i ≤ s.i) = false ∧ (s.term l[k].i).isSome = true ∧ ((s.term l[k].i).getD 0 == l[k].t) = false ∧ (l[k].i == s.i + 1) = false ∧ rmergeGo s (l.drop k) = (l[k].i, l.drop k, true)) := by
  rw [rmergeGo_drop s l k hk]
  generalize l[k] = E
  by_cases c1 : E.i ≤ s.i
  · exact .inl ⟨by simpa using c1, if_pos (.inl c1)⟩
  · have c1b : decide (E.i ≤ s.i) = false := by simpa using c1
    right
    cases ho : s.term E.i with
    | none =>
      right
      rw [if_neg (by rintro (h | h); exact c1 h; cases h)]
      by_cases c2 : E.i = s.i + 1
      · by_cases c3 : E.t < s.t
        · exact .inl ⟨c1b, rfl, by simpa using c2, by simpa using c3, if_pos ⟨c2, c3⟩⟩
        · exact .inr (.inl ⟨c1b, rfl, by simpa using c2, by simpa using c3, by rw [if_neg (fun h => c3 h.2)]; simp⟩)
      · exact .inr (.inr (.inl ⟨c1b, rfl, by simpa using c2, by rw [if_neg (fun h => c2 h.1)]; simp⟩))
    | some u =>
      by_cases c4 : u = E.t
      · exact .inl ⟨c1b, rfl, by simpa using c4, if_pos (.inr (by rw [c4]))⟩
      · have c4b : (u == E.t) = false := by simpa using c4
        rw [if_neg (by rintro (h | h); exact c1 h; exact c4 (by injection h))]
        right; right; right; right
        by_cases c2 : E.i = s.i + 1
        · by_cases c3 : E.t < s.t
          · exact .inl ⟨c1b, rfl, c4b, by simpa using c2, by simpa using c3, if_pos ⟨c2, c3⟩⟩
          · exact .inr (.inl ⟨c1b, rfl, c4b, by simpa using c2, by simpa using c3, by rw [if_neg (fun h => c3 h.2)]; simp⟩)
        · exact .inr (.inr ⟨c1b, rfl, c4b, by simpa using c2, by rw [if_neg (fun h => c2 h.1)]; simp⟩)

set_option maxHeartbeats 2000000 in
theorem RMerge_bad {F G : Nat → Prop} {w : World} {b : Nat} {s : LS} (h : RefAt F w b s) (hok : s.Ok) (x t : Int) (hx : In64 x) {a : Option Addr} {n c : Nat} {more : List Ent} (hm : EsF G w a n c more)
    (hr : risesS x t more = false ∨ (s.lastI < x ∨ (s.i ≤ x ∧ s.term x ≠ some t))) :
    Calls Try.prog 31 #[.pointer (some ⟨b, 0, none⟩), .int .i64 x, .int .i64 t, .slice a n c] w (RMergePost (fun k => G k ∧ k < w.heap.size) w (0, [], false)) := by
  obtain ⟨al, cl, h0, h1, h2, -, -, hbl⟩ := h.cells
  have hB := hok.bounds
  have hlast := hok.lastI_eq
  have hle := hok.last_le
  have hcall := RLast_at h
  have hA := fun W (hW : RefAt F W b s) => RAt_at hW hok x
  have hrc := fun W (hW : EsF G W a n c more) => RRises_any G x t a n c more W hx hW
  have hcase : rrisesS x t more = false ∨ (rrisesS x t more = true ∧ decide (s.lastI < x) = true) ∨ (rrisesS x t more = true ∧ decide (s.lastI < x) = false ∧ decide (s.i ≤ x) = true ∧ ((s.term x).getD 0 != t) = true) := by
    cases hR : rrisesS x t more with
    | false => exact .inl rfl
    | true =>
      right
      by_cases hl : s.lastI < x
      · exact .inl ⟨rfl, by simpa using hl⟩
      · right
        have hxf : x ≤ 1099511627776 := by omega
        rcases hr with hr | hr | hr
        · unfold rrisesS at hR
          rw [if_pos (by omega)] at hR
          rw [hR] at hr; cases hr
        · exact absurd hr hl
        · refine ⟨rfl, by simpa using hl, by simpa using hr.1, ?_⟩
          have hne := hr.2
          obtain ⟨u, hu⟩ : ∃ u, s.term x = some u := by
            unfold LS.term
            rw [if_neg (by omega)]
            by_cases hxe : x = s.i
            · exact ⟨_, if_pos hxe⟩
            · rw [if_neg hxe, List.getElem?_eq_getElem (by omega)]; exact ⟨_, rfl⟩
          rw [hu] at hne ⊢
          simpa using hne
  generalize rrisesS x t more = R at *
  generalize (s.term x).getD 0 = u at *
  generalize (s.term x).isSome = o at *
  generalize s.lastI = z at *
  generalize s.lastT = y at *
  have HC := hid hcall
  have HA := hid hA
  have HR := hid hrc
  have HM := hid hm
  have HO := hid h
  clear hcall hA hrc hm h hlast hle hok hr hx h1 h2 hB
  rcases hcase with rfl | ⟨rfl, hz⟩ | ⟨rfl, hz, hi, hu⟩
  all_goals
    go_enter Try.func31, Try.ntmps31
    go_wp2_with fail
    refine Calls.mono HC.out ?_
    rintro e w1 ⟨rfl, hb1⟩
    go_wp2_with fail
    refine Calls.mono (HA.out _ (HO.out.below hb1)) ?_
    rintro e w2 ⟨rfl, hb2⟩
    have hx2 := Ext.trans' hb1 hb2
    go_wp2_with fail
    refine Calls.mono (HR.out _ (HM.out.below hx2)) ?_
    rintro e w3 ⟨rfl, hb3⟩
    have hx3 := Ext.trans' hx2 hb3
    have h0r := (hx3.cell (p := ⟨b, 0, none⟩) hbl).trans h0
    have hs3 := hx3.size
    have hbl3 : b < w3.heap.size := by omega
    go_wp2
    go_ret3
    exact ⟨none, 0, rfl, EsF.nil_ _ _, hx3⟩

set_option maxRecDepth 100000 in
set_option maxHeartbeats 4000000 in
theorem RMerge_ok {F G : Nat → Prop} {w : World} {b : Nat} {s : LS} (h : RefAt F w b s) (hok : s.Ok) (x t : Int) (hx : In64 x) {a : Option Addr} {n c : Nat} {more : List Ent} (hm : EsF G w a n c more)
    (hr : risesS x t more = true) (hzx : ¬ s.lastI < x) (htt : s.i ≤ x → s.term x = some t) :
    Calls Try.prog 31 #[.pointer (some ⟨b, 0, none⟩), .int .i64 x, .int .i64 t, .slice a n c] w (RMergePost (fun k => G k ∧ k < w.heap.size) w (mergeGo s more)) := by
  obtain ⟨al, cl, h0, h1, h2, -, -, hbl⟩ := h.cells
  have hB := hok.bounds
  have hlast := hok.lastI_eq
  have hle := hok.last_le
  have hcall := RLast_at h
  have hA1 := fun W (hW : RefAt F W b s) => RAt_at hW hok x
  have hA := fun (x : Int) W (hW : RefAt F W b s) => RAt_at hW hok x
  have hR : rrisesS x t more = true := by unfold rrisesS; rw [if_pos (by omega)]; exact hr
  have hrc := fun W (hW : EsF G W a n c more) => RRises_any G x t a n c more W hx hW
  rw [hR] at hrc
  have hgo := rmergeGo_eq hok more x t hx.1 (by omega) hr (fun h => htt (by omega))
  have hz : decide (s.lastI < x) = false := by simpa using hzx
  have hwi : IntKind.i64.wrap (s.i + 1) = s.i + 1 := wrapi (by omega)
  obtain ⟨r, hrr⟩ : ∃ r, r = mergeGo s more := ⟨_, rfl⟩
  rw [← hrr] at hgo ⊢
  have hcase : (decide (s.i ≤ x) = true ∧ ((s.term x).getD 0 != t) = false) ∨ decide (s.i ≤ x) = false := by
    by_cases hsx : s.i ≤ x
    · exact .inl ⟨by simpa using hsx, by rw [htt hsx]; simp⟩
    · exact .inr (by simpa using hsx)
  generalize (s.term x).getD 0 = u at *
  generalize (s.term x).isSome = o at *
  generalize s.lastI = z at *
  generalize s.lastT = y at *
  have hnn := hm.1
  have h40 := hm.2.2.1.2
  have hcc := hm.2.1
  have HC := hid hcall
  have HA1 := hid hA1
  have HA := hid hA
  have HR := hid hrc
  have HM := hid hm.lt
  have HM0 := hid hm
  have HO := hid h
  have HRR := hid hgo.symm
  have HN := hid hnn
  clear hcall hA1 hA hrc hm h hlast hle hok hr hx h2 hB hnn hgo hrr htt hzx hR
  rcases hcase with ⟨hi, hu⟩ | hi
  all_goals
    go_enter Try.func31, Try.ntmps31
    go_wp2_with fail
    refine Calls.mono HC.out ?_
    rintro e w1 ⟨rfl, hb1⟩
    go_wp2_with fail
    refine Calls.mono (HA1.out _ (HO.out.below hb1)) ?_
    rintro e w2 ⟨rfl, hb2⟩
    have hx2 := Ext.trans' hb1 hb2
    go_wp2_with fail
    refine Calls.mono (HR.out _ (HM0.out.below hx2)) ?_
    rintro e w3 ⟨rfl, hb3⟩
    have hx3 := Ext.trans' hx2 hb3
    have h0r := (hx3.cell (p := ⟨b, 0, none⟩) hbl).trans h0
    have hs3 := hx3.size
    have hbl3 : b < w3.heap.size := by omega
    clear HC HA1 HR hb1 hb2 hb3 hx2
    go_wp2
    go_loopw [56] (fun z wr => ∃ k : Nat, k ≤ n ∧ z = .int .i64 k ∧ Hid (r = rmergeGo s (more.drop k)) ∧ Ext w wr) (fun z _ => n - (intOf z).toNat)
    case atStart => exact ⟨0, Nat.zero_le _, rfl, HRR.out, hx3⟩
    case round =>
      clear hx3 h0r hs3 hbl3
      obtain ⟨k, hk, rfl, HK, hb⟩ := hrel
      by_cases hlt : k < n
      · obtain ⟨p, o, rfl, -, hpl, hkl, ⟨ei1, ei2⟩, ⟨et1, et2⟩, hc0, hc1, a', n', c', hc2, hd⟩ := (HM.out.below hb).at_ hlt
        have hcs := rmerge_step s more k hkl
        have hA := HA.out more[k].i
        generalize more[k] = E at *
        generalize (s.term E.i).isSome = ob at *
        generalize (s.term E.i).getD 0 = ou at *
        have HAE := hid hA
        have hsr := hb.size
        have hbx : Ext w (wr.alloc (.cells #[.int .i64 E.i, .int .i64 E.t, .slice a' n' c'] 54)) := hb.alloc hsr _
        have hk0 : (0 : Int) ≤ (k : Int) := by omega
        have hkc : (k : Int) ≤ (n : Int) := by omega
        clear hA hd
        rcases hcs with ⟨q1, hq⟩ | ⟨q1, rfl, q2, hq⟩ | ⟨q1, rfl, q2, q3, hq⟩ | ⟨q1, rfl, q2, q3, hq⟩ | ⟨q1, rfl, q2, hq⟩ | ⟨q1, rfl, q2, q3, q4, hq⟩ | ⟨q1, rfl, q2, q3, q4, hq⟩ | ⟨q1, rfl, q2, q3, hq⟩
        all_goals
          have HQ := hid (HK.out.trans hq)
          clear hq
          go_wp2_with fail
          refine Calls.mono (HAE.out _ (HO.out.below hbx)) ?_
          rintro e w' ⟨rfl, hbw⟩
          have hxw := Ext.trans' hbx hbw
          have e0 := (hxw.cell (p := ⟨b, 0, none⟩) hbl).trans h0
          have e1 := (hxw.cell (p := ⟨b, 1, none⟩) hbl).trans h1
          have hlx : wr.heap.size < (wr.alloc (.cells #[.int .i64 E.i, .int .i64 E.t, .slice a' n' c'] 54)).heap.size := by simp
          have d0 : w'.cell? ⟨wr.heap.size, 0, none⟩ = some (.int .i64 E.i) := (hbw.cell (p := ⟨wr.heap.size, 0, none⟩) hlx).trans (by unfold World.cell?; rw [heap_alloc_new]; rfl)
          have d1 : w'.cell? ⟨wr.heap.size, 1, none⟩ = some (.int .i64 E.t) := (hbw.cell (p := ⟨wr.heap.size, 1, none⟩) hlx).trans (by unfold World.cell?; rw [heap_alloc_new]; rfl)
          have hsw := hbw.size
          have hlw : wr.heap.size < w'.heap.size := by simp at hsw; omega
          have hblw : b < w'.heap.size := by omega
          clear hsw hlx hc0 hc1 hc2
          go_wp2_with fail
          go_quiet (fail)
          go_wp2_with fail
          first
            | (go_roundw
               case rel => exact ⟨k + 1, by omega, by go_num, HQ, below_drewN hxw _⟩
               case measure => simp [intOf]; omega)
            | (go_quiet (fail)
               go_wp2_with fail
               first
                 | (go_ret3
                    rw [HQ.out]
                    exact ⟨none, 0, rfl, EsF.nil_ _ _, by first | exact below_drewN hxw _ | exact below_drewN (below_drewN hxw _) _⟩)
                 | (go_quiet (fail)
                    go_wp2_with fail
                    go_ret3
                    rw [HQ.out]
                    have hle : n - k = (more.drop k).length := by rw [List.length_drop, HN.out]
                    have hc := (HM.out.below hxw).cut hk
                    refine ⟨some ⟨p, o + k * 3, none⟩, c - k, by show _ = Ending.returned (.tuple #[_, .slice _ (more.drop k).length _, _]); rw [← hle]; rfl, by show EsF _ _ _ (more.drop k).length _ _; rw [← hle]; first | exact (hc.drewN _).drewN _ | exact ((hc.drewN _).drewN _).drewN _, by first | exact below_drewN (below_drewN hxw _) _ | exact below_drewN (below_drewN (below_drewN hxw _) _) _⟩))
      · go_wp2
        go_ret3
        rw [HK.out, List.drop_eq_nil_of_le (by have := HN.out; omega)]
        exact ⟨none, 0, rfl, EsF.nil_ _ _, hb⟩
end Go.Proofs.Ytjcmgkdlkadfmaa
