/- The walks of New, Clone, From. -/
import Derived.Test.YtjcmgkdlkadfmaaLw4
import Derived.Deep.RegionHeld3
namespace Go.Proofs.Ytjcmgkdlkadfmaa
open Go.RowKit
set_option linter.unusedVariables false
set_option linter.unusedSimpArgs false
attribute [local go_sem] bmax2 bmin2 bmax_two bmin_two

theorem ext_of_drew {w w2 : World} (h : Ext w.drew w2) : Ext w w2 := ⟨h.os, h.tape, h.output, h.size, h.block⟩

/-- A new ledger over entries of the call's own. -/
theorem LedAt.made {B : Nat} {w : World} {i t : Int} {a : Option Addr} {c : Nat} {l : List Ent} (hi : In64 i) (ht : In64 t) (he : EsF (fun k => B ≤ k) w a l.length c l) :
    LedAt (fun k => B ≤ k ∧ k < w.heap.size) (w.alloc (.cells #[.int .i64 i, .int .i64 t, .slice a l.length c, .bool true] 71)) w.heap.size ⟨i, t, l⟩ :=
  ⟨⟨a, c, heap_alloc_new w _, he.lt.keep fun k hk hs => ⟨hk, Below.heap_alloc w _ k hs⟩⟩, fun h => Nat.lt_irrefl _ h.2, hi, ht⟩

set_option maxHeartbeats 400000 in
theorem New_ok {F : Nat → Prop} (i t : Int) (a : Option Addr) (n c : Nat) (l : List Ent) (w : World) (hi : In64 i) (ht : In64 t) (hl : EsF F w a n c l) (hok : LS.Ok ⟨i, t, l⟩) :
    Calls Try.prog 22 #[.int .i64 i, .int .i64 t, .slice a n c] w fun e w' => ∃ b, e = .returned (.tuple #[.pointer (some ⟨b, 0, none⟩), .int .i64 0]) ∧
      LedAt (fun k => w.heap.size ≤ k ∧ k ≠ b) w' b ⟨i, t, l⟩ ∧ w.heap.size ≤ b ∧ Ext w w' := by
  obtain ⟨hg, hr⟩ := hok
  dsimp only at hg hr
  have hgc := good_any i t w
  have hrc := rises_any F i t a n c l w hi hl
  rw [hg] at hgc
  rw [hr] at hrc
  have HG := hid hgc
  have HR := hid hrc
  have HL := hid hl
  have HI := hid hi
  have HT := hid ht
  clear hgc hrc hl hg hr hi ht
  go_enter Try.func22, Try.ntmps22
  go_wp2_with (first
    | (go_at_call 44; refine Calls.mono HG.out ?_; rintro e w' ⟨rfl, rfl⟩)
    | (go_at_call 45; refine Calls.mono HR.out ?_; rintro e w1 ⟨rfl, hb1⟩)
    | (go_at_call 46; refine (own_any F _ _ _ l _ (HL.out.below hb1)).mono ?_; rintro e w2 ⟨v, rfl, hown, hb2⟩; obtain ⟨a2, c2, rfl, he2⟩ := hown.es))
  go_ret2
  have hb : Ext w w2 := Ext.trans' hb1 hb2
  have hs := hb1.size
  refine ⟨_, rfl, ?_, ?_, hb.alloc hb.size _⟩
  · have hm := LedAt.made HI.out HT.out he2
    exact hm.keep rfl (fun k hk _ => ⟨⟨by omega, by omega⟩, rfl⟩) (fun h => h.2 rfl)
  · have := hb.size; omega

set_option maxHeartbeats 400000 in
theorem New_bad {F : Nat → Prop} (i t : Int) (a : Option Addr) (n c : Nat) (l : List Ent) (w : World) (hi : In64 i) (hl : EsF F w a n c l) (hok : ¬ LS.Ok ⟨i, t, l⟩) :
    Calls Try.prog 22 #[.int .i64 i, .int .i64 t, .slice a n c] w fun e w' => e = .returned (.tuple #[.pointer none, .int .i64 110]) ∧ Ext w w' := by
  have hgc := good_any i t w
  have hrc := rises_any F i t a n c l w hi hl
  have HG := hid hgc
  have HR := hid hrc
  clear hgc hrc
  by_cases hg : goodS i t = true
  · have hr : risesS i t l = false := by
      rw [← Bool.not_eq_true]
      exact fun hr => hok ⟨hg, hr⟩
    rw [hg] at HG
    rw [hr] at HR
    clear hg hr hl hi hok
    go_enter Try.func22, Try.ntmps22
    go_wp2_with (first
      | (go_at_call 44; refine Calls.mono HG.out ?_; rintro e w' ⟨rfl, rfl⟩)
      | (go_at_call 45; refine Calls.mono HR.out ?_; rintro e w1 ⟨rfl, hb1⟩))
    go_ret2
    exact ⟨rfl, hb1⟩
  · have hg : goodS i t = false := by rw [← Bool.not_eq_true]; exact hg
    rw [hg] at HG
    clear hg hl hi hok HR
    go_enter Try.func22, Try.ntmps22
    go_wp2_with (first
      | (go_at_call 44; refine Calls.mono HG.out ?_; rintro e w' ⟨rfl, rfl⟩))
    go_ret2
    exact ⟨rfl, Below.refl _ _⟩

set_option maxHeartbeats 400000 in
theorem Clone_at {F : Nat → Prop} {w : World} {b : Nat} {s : LS} (h : LedAt F w b s) :
    Calls Try.prog 39 #[.pointer (some ⟨b, 0, none⟩)] w fun e w' => ∃ b', e = .returned (.pointer (some ⟨b', 0, none⟩)) ∧
      LedAt (fun k => w.heap.size ≤ k ∧ k ≠ b') w' b' s ∧ w.heap.size ≤ b' ∧ Ext w w' := by
  obtain ⟨a, c, h0, h1, h2, h3, -, hl, hbl⟩ := h.cells
  have H := hid h
  have HL := hid hl
  clear h hl
  go_enter Try.func39, Try.ntmps39
  go_wp2_with (first | (go_at_call 42; refine (made_led (F := F) (s := s) H.out).mono ?_; rintro e w' ⟨rfl, rfl⟩))
  go_region_held3 (fun w' => w'.cell? ⟨b, 0, none⟩ = some (.int .i64 s.i) ∧ w'.cell? ⟨b, 1, none⟩ = some (.int .i64 s.t) ∧ w'.cell? ⟨b, 2, none⟩ = some (.slice a s.l.length c))
    (first | go_keep | exact ⟨(hb.cell (p := ⟨b, 0, none⟩) hbl).trans h0, (hb.cell (p := ⟨b, 1, none⟩) hbl).trans h1, (hb.cell (p := ⟨b, 2, none⟩) hbl).trans h2⟩)
    ((go_at_call 46; refine (own_any F _ _ _ s.l _ (by exact HL.out)).mono ?_; rintro e w2 ⟨v, rfl, hown, hb⟩; obtain ⟨a2, c2, rfl, he2⟩ := hown.es))
  clear hown
  go_wp2
  go_ret
  have hs := hb.size
  have hw : w.drew.heap.size = w.heap.size := rfl
  rw [hw] at hs
  refine ⟨_, rfl, ?_, hs, (ext_of_drew hb).alloc hs _⟩
  exact (LedAt.made H.out.i64 H.out.t64 he2).keep rfl (fun k hk _ => ⟨⟨hk.1, by omega⟩, rfl⟩) (fun h => h.2 rfl)

theorem EsF.drewN {F : Nat → Prop} {w : World} {a : Option Addr} {n c : Nat} {l : List Ent} (h : EsF F w a n c l) (k : Nat) : EsF F (w.drewN k) a n c l := h.keep fun _ hk _ => ⟨hk, rfl⟩
theorem ext_of_drewN {w w2 : World} {k : Nat} (h : Ext (w.drewN k) w2) : Ext w w2 := ⟨h.os, h.tape, h.output, h.size, h.block⟩
theorem EsF.cut {F : Nat → Prop} {w : World} {p o n c : Nat} {l : List Ent} (h : EsF F w (some ⟨p, o, none⟩) n c l) {j : Nat} (hj : j ≤ n) : EsF F w (some ⟨p, o + j * 3, none⟩) (n - j) (c - j) (l.drop j) := by
  obtain ⟨rfl, h2, ⟨h3, h3'⟩, h4, h5⟩ := h
  refine ⟨by simp, by omega, ⟨by omega, by omega⟩, (fun e => by cases e), fun q hq => ?_⟩
  cases hq
  obtain ⟨h6, h7⟩ := h5 _ rfl
  refine ⟨fun _ => rfl, fun k hk => ?_⟩
  have hk' : j + k < l.length := by simp at hk; omega
  have := h7 (j + k) hk'
  dsimp only at this ⊢
  rw [List.getElem_drop, show o + j * 3 + k * 3 = o + (j + k) * 3 from by omega]
  exact this
theorem EsF.front {F : Nat → Prop} {w : World} {a : Option Addr} {n c : Nat} {l : List Ent} (h : EsF F w a n c l) {q : Nat} (hq : q ≤ n) : EsF F w a q c (l.take q) := by
  obtain ⟨rfl, h2, ⟨h3, h3'⟩, h4, h5⟩ := h
  refine ⟨by simp; omega, by omega, ⟨h3, by omega⟩, h4, fun p hp => ?_⟩
  obtain ⟨h6, h7⟩ := h5 p hp
  refine ⟨h6, fun k hk => ?_⟩
  have hk' : k < l.length := by simp at hk; omega
  rw [List.getElem_take]
  exact h7 k hk'

/-- What From answers. -/
def LS.from_ (s : LS) (x m : Int) : List Ent := if x ≤ s.i then [] else (s.l.drop (x - s.i - 1).toNat).take (max 0 m).toNat

set_option maxHeartbeats 1000000 in
theorem From_at {F : Nat → Prop} {w : World} {b : Nat} {s : LS} (h : LedAt F w b s) (hok : s.Ok) (x m : Int) (hx : In64 x) (hm : In64 m) :
    Calls Try.prog 27 #[.pointer (some ⟨b, 0, none⟩), .int .i64 x, .int .i64 m] w fun e w' => ∃ v, e = .returned v ∧
      OwnE 54 w.heap.size w' v (s.from_ x m) ∧ Ext w w' := by
  obtain ⟨a, c, h0, h1, h2, h3, -, hl, hbl⟩ := h.cells
  obtain ⟨hx1, hx2⟩ := hx
  obtain ⟨hm1, hm2⟩ := hm
  have hB := hok.bounds
  have hn := hl.2.2.1.2
  have hlast := hok.lastI_eq
  have hle := hok.last_le
  have H := hid h
  clear h
  have hcall : ∀ W, LedAt F W b s → Calls Try.prog 19 #[.pointer (some ⟨b, 0, none⟩)] W fun e w' => e = .returned (.tuple #[.int .i64 s.lastI, .int .i64 s.lastT]) ∧ ∃ k, w' = W.drewN k := fun W hW => Last_at hW
  generalize s.lastI = z at *
  have HC := hid hcall
  clear hcall
  by_cases c1 : x ≤ s.i ∨ z < x
  · have e : s.from_ x m = [] := by
      unfold LS.from_
      rcases c1 with c1 | c1
      · rw [if_pos c1]
      · rw [if_neg (by omega), List.drop_eq_nil_of_le (by omega)]; simp
    rw [e]
    clear e hlast hl hok
    go_enter Try.func27, Try.ntmps27
    go_wp2_with (first | (go_at_call 42; refine (made_led (F := F) (s := s) (by first | exact H.out | exact H.out.drewN _)).mono ?_; rintro e w' ⟨rfl, rfl⟩) | (go_at_call 19; refine (HC.out _ (by first | exact H.out | exact H.out.drewN _)).mono ?_; rintro e w' ⟨rfl, k, rfl⟩))
    all_goals first
      | (exfalso; omega)
      | (go_ret; exact ⟨_, rfl, .inl ⟨rfl, rfl⟩, below_drewN (Below.refl _ _) _⟩)
  · obtain ⟨j, hj⟩ : ∃ j : Nat, x - s.i - 1 = j := ⟨(x - s.i - 1).toNat, by omega⟩
    have hjn : (x - s.i - 1).toNat = j := by omega
    have hjl : j < s.l.length := by omega
    obtain ⟨q, hq⟩ : ∃ q : Nat, max 0 (min m ((s.l.length - j : Nat) : Int)) = q := ⟨(max 0 (min m ((s.l.length - j : Nat) : Int))).toNat, by omega⟩
    have e : s.from_ x m = (s.l.drop j).take q := by
      unfold LS.from_
      rw [if_neg (by omega), hjn]
      by_cases hmm : (max 0 m).toNat ≤ s.l.length - j
      · congr 1; omega
      · rw [List.take_of_length_le (by simp; omega), List.take_of_length_le (by simp; omega)]
    rw [e]
    have hes : ∃ p o, a = some ⟨p, o, none⟩ ∧ s.l.length ≤ c := by
      obtain ⟨p, o, rfl, -⟩ := hl.at_ hjl
      exact ⟨p, o, rfl, hl.2.1⟩
    obtain ⟨p, o, rfl, hcc⟩ := hes
    have w1 : IntKind.i64.wrap (x - s.i) = x - s.i := wrapi (by omega)
    have w2 : IntKind.i64.wrap (x - s.i - 1) = (j : Int) := by rw [← hj]; exact wrapi (by omega)
    have HL := hid hl
    have hc1 : decide (x ≤ s.i) = false := by simp; omega
    have hc2 : decide (z < x) = false := by simp; omega
    have HJ := hid hj
    have HQ := hid hq
    clear e hlast hl hok c1 hj hjn hq
    go_enter Try.func27, Try.ntmps27
    go_wp2_with (first | (go_at_call 42; refine (made_led (F := F) (s := s) (by first | exact H.out | exact H.out.drewN _)).mono ?_; rintro e w' ⟨rfl, rfl⟩) | (go_at_call 19; refine (HC.out _ (by first | exact H.out | exact H.out.drewN _)).mono ?_; rintro e w' ⟨rfl, k, rfl⟩))
    go_quiet (fail)
    go_wp2_with fail
    rw [HQ.out, Int.toNat_natCast]
    refine (own_any F _ _ _ ((s.l.drop j).take q) _ (by exact ((HL.out.drewN _).cut (by omega)).front (by have := HQ.out; omega))).mono ?_
    rintro e w2 ⟨v, rfl, hown, hb⟩
    go_wp2
    go_ret
    exact ⟨_, rfl, hown, ext_of_drewN hb⟩
end Go.Proofs.Ytjcmgkdlkadfmaa
