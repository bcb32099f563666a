/- The walks of the reference's Good, Rises, Last, At, Fresh. -/
import Derived.Test.YtjcmgkdlkadfmaaLw6
namespace Go.Proofs.Ytjcmgkdlkadfmaa
open Go.RowKit
set_option linter.unusedVariables false
set_option linter.unusedSimpArgs false
attribute [local go_sem] bmax2 bmin2 bmax_two bmin_two

/-- A reference's ledger, in block b. -/
structure RefAt (F : Nat → Prop) (w : World) (b : Nat) (s : LS) : Prop where
  obj : ∃ a c, w.heap[b]? = some (.cells #[.int .i64 s.i, .int .i64 s.t, .slice a s.l.length c] 76 (0, 0)) ∧ EsF F w a s.l.length c s.l
  far : ¬ F b
  i64 : In64 s.i
  t64 : In64 s.t
theorem RefAt.cells {F : Nat → Prop} {w : World} {b : Nat} {s : LS} (h : RefAt F w b s) : ∃ a c, w.cell? ⟨b, 0, none⟩ = some (.int .i64 s.i) ∧ w.cell? ⟨b, 1, none⟩ = some (.int .i64 s.t) ∧
    w.cell? ⟨b, 2, none⟩ = some (.slice a s.l.length c) ∧ (∀ j, w.frozen? ⟨b, j, none⟩ = false) ∧ EsF F w a s.l.length c s.l ∧ b < w.heap.size := by
  obtain ⟨a, c, h1, h2⟩ := h.obj
  refine ⟨a, c, ?_, ?_, ?_, fun j => ?_, h2, ?_⟩
  all_goals first | (simp [World.cell?, h1]; done) | (simp [World.frozen?, h1]; done) | skip
  exact (Array.getElem?_eq_some_iff.1 h1).1
theorem RefAt.keep {F G : Nat → Prop} {w w' : World} {b : Nat} {s : LS} (h : RefAt F w b s) (hb : w'.heap[b]? = w.heap[b]?) (hf : ∀ k, F k → k < w.heap.size → G k ∧ w'.heap[k]? = w.heap[k]?) (hg : ¬ G b) : RefAt G w' b s := by
  obtain ⟨a, c, h1, h2⟩ := h.obj
  exact ⟨⟨a, c, hb.trans h1, h2.keep hf⟩, hg, h.i64, h.t64⟩
theorem RefAt.lt {F : Nat → Prop} {w : World} {b : Nat} {s : LS} (h : RefAt F w b s) : b < w.heap.size := by
  obtain ⟨a, c, h1, h2⟩ := h.obj
  exact (Array.getElem?_eq_some_iff.1 h1).1
theorem RefAt.below {F : Nat → Prop} {w w' : World} {b : Nat} {s : LS} (h : RefAt F w b s) (hb : Ext w w') : RefAt F w' b s := h.keep (hb.block b h.lt) (fun k hk hs => ⟨hk, hb.block k hs⟩) h.far
theorem RefAt.only {F : Nat → Prop} {w w' : World} {b g : Nat} {s : LS} (h : RefAt F w b s) (hb : w.grownBy w' (some g)) (hne : b ≠ g) (hg : ¬ F g) : RefAt F w' b s :=
  h.keep (hb.block b h.lt (by intro e; injection e with e; exact hne e)) (fun k hk hs => ⟨hk, hb.block k hs (by intro e; injection e with e; subst e; exact hg hk)⟩) h.far
theorem RefAt.drewN {F : Nat → Prop} {w : World} {b : Nat} {s : LS} (h : RefAt F w b s) (k : Nat) : RefAt F (w.drewN k) b s := h.keep rfl (fun _ hk _ => ⟨hk, rfl⟩) h.far

set_option maxHeartbeats 1000000 in
theorem RGood_any (i t : Int) (w : World) : Calls Try.prog 47 #[.int .i64 i, .int .i64 t] w fun e w' => e = .returned (.bool (goodS i t)) ∧ w = w' := by
  have hg := goodS_iff i t
  go_enter Try.func47, Try.ntmps47
  have HG := hid hg
  clear hg
  go_wp2
  all_goals
    go_ret
    refine ⟨?_, rfl⟩
    have hg := HG.out
    try simp only [beq_iff_eq, beq_eq_false_iff_ne, ne_eq] at *
    cases hc : goodS i t
    · rw [hc] at hg
      simp only [Bool.false_eq_true, false_iff] at hg
      congr 2 <;> first | omega | (simp; done) | (simp; omega)
    · rw [hc] at hg
      simp only [true_iff] at hg
      congr 2 <;> first | omega | (simp; done) | (simp; omega)

theorem lastI_take (i t : Int) (l : List Ent) (k : Nat) (hk : k < l.length) : LS.lastI ⟨i, t, l.take (k + 1)⟩ = l[k].i := by
  unfold LS.lastI
  rw [List.getLast?_eq_getElem?, List.getElem?_eq_getElem (by simp; omega)]
  simp only [List.length_take, List.getElem_take]
  congr 2
  omega
theorem lastT_take (i t : Int) (l : List Ent) (k : Nat) (hk : k < l.length) : LS.lastT ⟨i, t, l.take (k + 1)⟩ = l[k].t := by
  unfold LS.lastT
  rw [List.getLast?_eq_getElem?, List.getElem?_eq_getElem (by simp; omega)]
  simp only [List.length_take, List.getElem_take]
  congr 2
  omega

set_option maxHeartbeats 1000000 in
theorem RLast_at {F : Nat → Prop} {w : World} {b : Nat} {s : LS} (h : RefAt F w b s) :
    Calls Try.prog 43 #[.pointer (some ⟨b, 0, none⟩)] w fun e w' => e = .returned (.tuple #[.int .i64 s.lastI, .int .i64 s.lastT]) ∧ Ext w w' := by
  obtain ⟨a, c, h0, h1, h2, hfz, hl, hbl⟩ := h.cells
  obtain ⟨i, t, l⟩ := s
  dsimp only at h0 h1 h2 hl
  have h40 := hl.2.2.1.2
  have HL := hid hl
  obtain ⟨n, hn⟩ : ∃ n, n = l.length := ⟨_, rfl⟩
  have hn1 : n ≤ l.length := by omega
  have hn2 : l.length ≤ n := by omega
  clear hl hfz h
  go_enter Try.func43, Try.ntmps43
  go_wp2
  go_quiet (fail)
  go_wp2
  go_loopw [4, 5, 21] (fun x y z wr => ∃ k : Nat, k ≤ l.length ∧ x = .int .i64 (LS.lastI ⟨i, t, l.take k⟩) ∧ y = .int .i64 (LS.lastT ⟨i, t, l.take k⟩) ∧ z = .int .i64 k ∧ Ext w wr) (fun _ _ z _ => l.length - (intOf z).toNat)
  case atStart => exact ⟨0, Nat.zero_le _, rfl, rfl, rfl, below_drewN (Below.refl _ _) _⟩
  case round =>
    obtain ⟨k, hk, rfl, rfl, rfl, hb⟩ := hrel
    by_cases hlt : k < l.length
    · obtain ⟨p, o, rfl, -, hpl, hkl, -, -, hc0, hc1, a', n', c', hc2, -⟩ := (HL.out.below hb).at_ hlt
      have e1 := lastI_take i t l k hkl
      have e2 := lastT_take i t l k hkl
      generalize l[k].i = Ei at *
      generalize l[k].t = Et at *
      have E1 := hid e1
      have E2 := hid e2
      clear e1 e2
      go_wp2
      go_roundw
      case rel => exact ⟨k + 1, by omega, by rw [E1.out], by rw [E2.out], by go_num, hb.alloc (by have := hb.size; omega) _⟩
      case measure => simp [intOf]; omega
    · have e : l.take k = l := List.take_of_length_le (by omega)
      rw [e]
      go_wp2
      go_ret2
      exact ⟨rfl, hb⟩

theorem LS.Ok.term_at {s : LS} (h : s.Ok) {k : Nat} (hk : k < s.l.length) : s.term s.l[k].i = some s.l[k].t := by
  have h1 := (h.at_ hk).1
  unfold LS.term
  rw [if_neg (by omega), if_neg (by omega)]
  have : (s.l[k].i - s.i - 1).toNat = k := by omega
  rw [this, List.getElem?_eq_getElem hk]
  rfl
theorem LS.Ok.term_none {s : LS} (h : s.Ok) {x : Int} (hx : x ≠ s.i) (hn : ∀ k, (hk : k < s.l.length) → s.l[k].i ≠ x) : s.term x = none := by
  unfold LS.term
  by_cases h1 : x < s.i
  · rw [if_pos h1]
  · rw [if_neg h1, if_neg hx]
    by_cases hk : (x - s.i - 1).toNat < s.l.length
    · have h1 := (h.at_ hk).1
      exact absurd (by omega) (hn _ hk)
    · rw [List.getElem?_eq_none (by omega)]
      rfl
theorem LS.term_base (s : LS) : s.term s.i = some s.t := by unfold LS.term; rw [if_neg (by omega), if_pos rfl]

set_option maxHeartbeats 1000000 in
theorem RAt_at {F : Nat → Prop} {w : World} {b : Nat} {s : LS} (h : RefAt F w b s) (hok : s.Ok) (x : Int) :
    Calls Try.prog 25 #[.pointer (some ⟨b, 0, none⟩), .int .i64 x] w fun e w' =>
      e = .returned (.tuple #[.int .i64 ((s.term x).getD 0), .bool (s.term x).isSome]) ∧ Ext w w' := by
  obtain ⟨a, c, h0, h1, h2, hfz, hl, hbl⟩ := h.cells
  have h40 := hl.2.2.1.2
  have HL := hid hl
  have HO := hid hok
  clear hl hfz h
  obtain ⟨r, hr⟩ : ∃ r, r = s.term x := ⟨_, rfl⟩
  rw [← hr]
  by_cases hx : x = s.i
  · subst hx
    rw [LS.term_base] at hr
    subst hr
    clear HO hok HL
    go_enter Try.func25, Try.ntmps25
    go_wp2
    go_ret2
    exact ⟨rfl, Below.refl _ _⟩
  · have hxb : (x == s.i) = false := by simpa using hx
    have HR := hid hr
    have HX := hid hx
    clear hok hr hx
    go_enter Try.func25, Try.ntmps25
    go_wp2
    go_loopw [23] (fun z wr => ∃ k : Nat, k ≤ s.l.length ∧ z = .int .i64 k ∧ Ext w wr ∧ Hid (∀ j, (hj : j < s.l.length) → j < k → s.l[j].i ≠ x)) (fun z _ => s.l.length - (intOf z).toNat)
    case atStart => exact ⟨0, Nat.zero_le _, rfl, Below.refl _ _, fun j _ hj => absurd hj (by omega)⟩
    case round =>
      obtain ⟨k, hk, rfl, hb, hno⟩ := hrel
      by_cases hlt : k < s.l.length
      · obtain ⟨p, o, rfl, -, hpl, hkl, -, -, hc0, hc1, a', n', c', hc2, -⟩ := (HL.out.below hb).at_ hlt
        have ht := HO.out.term_at hkl
        have hstep : s.l[k].i ≠ x → Hid (∀ j, (hj : j < s.l.length) → j < k + 1 → s.l[j].i ≠ x) := by
          intro hne j hj hjk
          by_cases e : j = k
          · subst e; exact hne
          · exact hno.out j hj (by omega)
        generalize s.l[k].i = Ei at *
        generalize s.l[k].t = Et at *
        have HS := hid hstep
        have HT := hid ht
        clear hstep ht
        by_cases hxe : Ei = x
        · subst hxe
          go_wp2
          go_ret2
          have hr := HR.out
          rw [HT.out] at hr
          subst hr
          exact ⟨rfl, hb.alloc (by have := hb.size; omega) _⟩
        · have hxeb : (Ei == x) = false := by simpa using hxe
          go_wp2
          go_roundw
          case rel => exact ⟨k + 1, by omega, by go_num, hb.alloc (by have := hb.size; omega) _, HS.out hxe⟩
          case measure => simp [intOf]; omega
      · go_wp2
        go_ret2
        have hr := HR.out
        rw [HO.out.term_none HX.out (fun k' hk' => hno.out k' hk' (by omega))] at hr
        subst hr
        exact ⟨rfl, hb⟩
end Go.Proofs.Ytjcmgkdlkadfmaa
