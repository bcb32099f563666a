/- The walk of the law LedgerPlays. -/
import Derived.Test.YtjcmgkdlkadfmaaLp1
import Derived.Test.YtjcmgkdlkadfmaaLws
import Derived.Test.YtjcmgkdlkadfmaaLmany
import Derived.Test.YtjcmgkdlkadfmaaLd2
import Derived.Test.YtjcmgkdlkadfmaaLMakesW
namespace Go.Proofs.Ytjcmgkdlkadfmaa
open Go.RowKit
set_option linter.unusedVariables false
set_option linter.unusedSimpArgs false
attribute [local go_sem] bmax2 bmin2 bmax_two bmin_two

theorem totE_take_le (L : List (List Ent)) : ∀ k, totE (L.take k) ≤ totE L := by
  induction L with
  | nil => intro k; simp [totE]
  | cons l L ih =>
    intro k
    cases k with
    | zero => simp [totE]
    | succ k => have := ih k; simp only [totE, List.take_succ_cons, List.map_cons, List.sum_cons] at *; omega
theorem mergeGo_len (s : LS) : ∀ l : List Ent, (mergeGo s l).2.1.length ≤ l.length := by
  intro l
  induction l with
  | nil => simp [mergeGo]
  | cons e l ih =>
    unfold mergeGo
    split
    · simp; omega
    · split
      · simp
      · split <;> simp
theorem LS.merge_len (s : LS) (x t : Int) (l : List Ent) : (s.merge x t l).2.1.length ≤ l.length := by
  unfold LS.merge
  split
  · simp
  · split
    · simp
    · exact mergeGo_len s l

/-- Between two calls: the ledger in block g and the reference's in block b' have the same. -/
structure PlayAt (B : Nat) (w : World) (g b' : Nat) (s : LS) (most : Nat) : Prop where
  led : LedAt (fun q => q ≠ g ∧ q ≠ b') w g s
  ref : RefAt (fun q => q ≠ g ∧ q ≠ b') w b' s
  ok : s.Ok
  len : s.l.length ≤ most
  ne : g ≠ b'
  hg : B ≤ g
  hb : B ≤ b'
theorem PlayAt.below {B : Nat} {w w' : World} {g b' : Nat} {s : LS} {most : Nat} (h : PlayAt B w g b' s most) (hx : Ext w w') : PlayAt B w' g b' s most :=
  ⟨h.led.below hx, h.ref.below hx, h.ok, h.len, h.ne, h.hg, h.hb⟩

theorem PlayAt.fresh {B : Nat} {w : World} {g b' : Nat} {s : LS} {most : Nat} (h : PlayAt B w g b' s most) : ∀ q, w.heap.size ≤ q → q ≠ g ∧ q ≠ b' := by
  intro q hq
  have h1 := h.led.lt
  have h2 := h.ref.lt
  omega
theorem PlayAt.refOnly {B : Nat} {w w4 : World} {g b' : Nat} {s : LS} {most : Nat} (h : PlayAt B w g b' s most) (h4 : w.grownBy w4 (some g)) : RefAt (fun q => q ≠ g ∧ q ≠ b') w4 b' s := h.ref.only h4 (fun e => h.ne e.symm) (fun e => e.1 rfl)
theorem PlayAt.next {B : Nat} {w w4 w5 : World} {g b' : Nat} {s s' : LS} {most most' : Nat} (h : PlayAt B w g b' s most) (hl : LedAt (fun q => q ≠ g ∧ q ≠ b') w4 g s') (h4 : w.grownBy w4 (some g)) (hr : RefAt (fun q => q ≠ g ∧ q ≠ b') w5 b' s') (h5 : w4.grownBy w5 (some b'))
    (hok : s'.Ok) (hlen : s'.l.length ≤ most') : PlayAt B w5 g b' s' most' := ⟨hl.only h5 h.ne (fun e => e.2 rfl), hr, hok, hlen, h.ne, h.hg, h.hb⟩
theorem PlayAt.ext {w0 w w4 w5 : World} {g b' : Nat} {s : LS} {most : Nat} (h : PlayAt w0.heap.size w g b' s most) (hx : Ext w0 w) (h4 : w.grownBy w4 (some g)) (h5 : w4.grownBy w5 (some b')) : Ext w0 w5 := by
  have h6 : Ext w0 w4 := hx.grown h4 hx.size (fun q hq => by cases hq; exact h.hg)
  exact h6.grown h5 h6.size (fun q hq => by cases hq; exact h.hb)

/-- Behind a clone, and what is done to the one that was cloned. -/
theorem PlayAt.turn {B : Nat} {w w4 w6 : World} {g g' b' : Nat} {s : LS} {most most' : Nat} (h : PlayAt B w g b' s most) (hc : LedAt (fun k => w.heap.size ≤ k ∧ k ≠ g') w4 g' s) (hx : Ext w w4) (hg : w.heap.size ≤ g')
    (h6 : w4.grownBy w6 (some g)) (hm : most ≤ most') : PlayAt B w6 g' b' s most' := by
  have h1 := h.led.lt
  have h2 := h.ref.lt
  have hs := hx.size
  have h3 := h.hg
  refine ⟨hc.keep (h6.block g' hc.lt (by intro e; injection e with e; omega)) (fun q hq hl => ⟨⟨hq.2, by omega⟩, h6.block q hl (by intro e; injection e with e; omega)⟩) (fun e => e.1 rfl),
    h.ref.keep ((h6.block b' (by omega) (by intro e; injection e with e; exact h.ne e.symm)).trans (hx.block b' h2)) (fun q hq hl => ⟨⟨by omega, hq.2⟩, (h6.block q (by omega) (by intro e; injection e with e; exact hq.1 e)).trans (hx.block q hl)⟩) (fun e => e.2 rfl),
    h.ok, Nat.le_trans h.len hm, by omega, by omega, h.hb⟩
def twoE : List Ent := [⟨1, 1, []⟩, ⟨2, 1, []⟩]
theorem two_es (w : World) : EsF (fun q => q = w.heap.size) (w.alloc (.cells #[.int .i64 1, .int .i64 1, .slice none 0 0, .int .i64 2, .int .i64 1, .slice none 0 0] 54)) (some ⟨w.heap.size, 0, none⟩) 2 2 twoE := by
  refine ⟨rfl, Nat.le_refl _, ⟨by unfold maxLen; omega, by decide⟩, (fun e => by cases e), fun p hp => ?_⟩
  cases hp
  refine ⟨fun _ => rfl, fun k hk => ⟨rfl, ?_⟩⟩
  match k, hk with
  | 0, _ =>
    refine ⟨(show In64 (1 : Int) from ⟨by decide, by decide⟩), (show In64 (1 : Int) from ⟨by decide, by decide⟩), ?_, ?_, none, 0, 0, ?_, ByF.nil_ _ _⟩
    all_goals (unfold World.cell?; rw [heap_alloc_new]; rfl)
  | 1, _ =>
    refine ⟨(show In64 (2 : Int) from ⟨by decide, by decide⟩), (show In64 (1 : Int) from ⟨by decide, by decide⟩), ?_, ?_, none, 0, 0, ?_, ByF.nil_ _ _⟩
    all_goals (unfold World.cell?; rw [heap_alloc_new]; rfl)

set_option maxRecDepth 100000 in
set_option maxHeartbeats 20000000 in
theorem LedgerPlays_calls {F G : Nat → Prop} (i t : Int) (a : Option Addr) (n c : Nat) (l : List Ent) (a' : Option Addr) (n' c' : Nat) (D : List DoS) (w : World) (hi : In64 i) (ht : In64 t) (hl : EsF F w a n c l)
    (hl' : DosF G w a' n' c' D) :
    Calls Try.prog 10 #[baseV i t a n c, .slice a' n' c'] w fun e w' => e = .returned (.bool true) ∧ Ext w w' := by
  have HL := hid hl
  have HI := hid hi
  have HT := hid ht
  have HK := hid hl'
  clear hl hi ht hl'
  go_enter Try.func10, Try.ntmps10
  go_wp2_with fail
  refine (light_tot F _ _ _ [l] _ (by exact LLsF.one _ (HL.out.below (ext_alloc _ _)) (by simp))).mono ?_
  rintro e w1 ⟨bb, rfl, hbb, hw1⟩
  have hx1 : Ext w ((w.alloc (.cells #[.int .i64 i, .int .i64 t, .slice a n c] 24)).alloc (.cells #[.slice a n c] 22)) := Ext.trans' (ext_alloc _ _) (ext_alloc _ _)
  obtain ⟨c0, c1, c2, c3⟩ := base_cells w i t a n c 24 22 (.slice a n c)
  rw [hw1] at hx1 c0 c1 c2 c3
  clear hw1
  have HBB := hid hbb
  clear hbb
  cases bb with
  | false =>
    go_wp2_with fail
    refine (awake_any _).mono ?_
    rintro e w2 ⟨rfl, hb2⟩
    go_wp2
    go_ret
    exact ⟨rfl, Ext.trans' hx1 hb2⟩
  | true =>
    have hlen : l.length ≤ 200 := by have := HBB.out rfl; simpa [totE] using this
    go_wp2_with fail
    refine (short_any (by exact HK.out.below hx1)).mono ?_
    rintro e w2 ⟨bb, rfl, hbb, hb2⟩
    have hx2 := Ext.trans' hx1 hb2
    have d0 := (hb2.cell (p := ⟨w.heap.size, 0, none⟩) c3).trans c0
    have d1 := (hb2.cell (p := ⟨w.heap.size, 1, none⟩) c3).trans c1
    have d2 := (hb2.cell (p := ⟨w.heap.size, 2, none⟩) c3).trans c2
    have d3 : w.heap.size < w2.heap.size := by have := hb2.size; omega
    have HSS := hid hbb
    clear hbb c0 c1 c2 c3
    cases bb with
    | false =>
      go_wp2_with fail
      refine (awake_any _).mono ?_
      rintro e w3 ⟨rfl, hb3⟩
      go_wp2
      go_ret
      exact ⟨rfl, Ext.trans' hx2 hb3⟩
    | true =>
      obtain ⟨hD60, hD200⟩ := HSS.out rfl
      have HN := hid HK.out.1
      have hD200 := hid hD200
      have hn60 : n' ≤ 60 := by have := HN.out; omega
      clear HSS hD60
      go_wp2_with fail
      by_cases hok : LS.Ok ⟨i, t, l⟩
      · refine (made_ok i t a n c l _ HI.out HT.out (by exact HL.out.lt.below hx2) hok).mono ?_
        rintro e w3 ⟨b, b', rfl, hled, href, hb1, hb1', hbb, hx3⟩
        have hx := Ext.trans' hx2 hx3
        have hw2 := hx2.size
        have hpl : PlayAt w.heap.size w3 b b' ⟨i, t, l⟩ 200 := ⟨hled.keep rfl (fun k hk _ => ⟨⟨hk.2.1, hk.2.2⟩, rfl⟩) (fun h => h.1 rfl),
          href.keep rfl (fun k hk _ => ⟨by rcases hk with ⟨⟨-, hk⟩, -⟩ | hk; exact ⟨by omega, by omega⟩; exact hk.2, rfl⟩) (fun h => h.2 rfl), hok, hlen, hbb, by omega, by omega⟩
        have HPL := hid hpl
        have hbw' : w.heap.size ≤ b' := by omega
        clear hled href d0 d1 d2 hok hpl hb1 hb1' hbb hx3 hx2 hx1 hb2 hw2 d3 hlen HBB
        go_wp2
        go_loopw [41, 5] (fun z v wr => ∃ (k g : Nat) (s : LS), k ≤ n' ∧ z = .int .i64 k ∧ v = .pointer (some ⟨g, 0, none⟩) ∧ Hid (PlayAt w.heap.size wr g b' s (200 + totE ((D.map DoS.l).take k))) ∧ Ext w wr) (fun z _ _ => n' - (intOf z).toNat)
        case atStart => exact ⟨0, b, _, Nat.zero_le _, rfl, rfl, HPL, hx⟩
        case round =>
          clear HPL hx
          obtain ⟨k, g, s, hk, rfl, rfl, HP, hx⟩ := hrel
          by_cases hlt : k < n'
          · obtain ⟨p, o, rfl, hpl, hkl, ho64, hx64, ht64, q0, q1, q2, a9, n9, c9, q3, he⟩ := HK.out.at_ hlt
            have hmost : totE ((D.map DoS.l).take (k + 1)) = totE ((D.map DoS.l).take k) + D[k].l.length := by
              have := totE_take (D.map DoS.l) k (by simpa using hkl)
              rw [this]; simp
            have hle := totE_take_le (D.map DoS.l) (k + 1)
            have hle2 := hD200.out
            generalize D[k] = E at *
            have q0 := (hx.cell (p := ⟨p, o + k * 4, none⟩) hpl).trans q0
            have q1 := (hx.cell (p := ⟨p, o + k * 4 + 1, none⟩) hpl).trans q1
            have q2 := (hx.cell (p := ⟨p, o + k * 4 + 2, none⟩) hpl).trans q2
            have q3 := (hx.cell (p := ⟨p, o + k * 4 + 3, none⟩) hpl).trans q3
            have hsz := hx.size
            have hpr : p < wr.heap.size := by omega
            have HE := hid (he.lt.more (G := fun q => q < w.heap.size) fun q hq => hq.2)
            obtain ⟨m, hm⟩ : ∃ m, m = totE ((D.map DoS.l).take k) := ⟨_, rfl⟩
            rw [← hm] at hmost HP
            have HM := hid hmost
            have HPX := hid (HP.out.below (ext_alloc wr (.cells #[.int .i64 E.o, .int .i64 E.x, .int .i64 E.t, .slice a9 n9 c9] 59)))
            have hxX : Ext w (wr.alloc (.cells #[.int .i64 E.o, .int .i64 E.x, .int .i64 E.t, .slice a9 n9 c9] 59)) := hx.alloc hsz _
            have hw0 : (wr.alloc (.cells #[.int .i64 E.o, .int .i64 E.x, .int .i64 E.t, .slice a9 n9 c9] 59)).heap[wr.heap.size]? = some (.cells #[.int .i64 E.o, .int .i64 E.x, .int .i64 E.t, .slice a9 n9 c9] 59 (0, 0)) := heap_alloc_new wr _
            have HW0 := hid hw0
            have hgl := HP.out.led.lt
            have hbl := HP.out.ref.lt
            have H9 := hid (show n9 = E.l.length from HE.out.1)
            clear he hm hmost hw0
            go_wp2_with fail
            · have hcw := fun W (h : LedAt (fun q => q ≠ g ∧ q ≠ b') W g s) hF => CutW h hF HPX.out.ok E.x
              have hrw := fun W (h : RefAt (fun q => q ≠ g ∧ q ≠ b') W b' s) => RCutW h HPX.out.ok E.x
              have hokr := HPX.out.ok.cutS E.x
              have hlenr := LS.cutS_len s E.x
              generalize LS.cutS s E.x = r at *
              obtain ⟨z, s'⟩ := r
              have HCW := hid hcw
              have HRW := hid hrw
              have HOKR := hid hokr
              have HLENR := hid (show s'.l.length ≤ 200 + totE ((D.map DoS.l).take (k + 1)) by have := HPX.out.len; have := HM.out; dsimp only at hlenr; omega)
              clear hcw hrw hokr hlenr
              go_region_held3 (fun w' => w'.cell? ⟨wr.heap.size, 1, none⟩ = some (.int .i64 E.x) ∧ w'.cell? ⟨wr.heap.size, 2, none⟩ = some (.int .i64 E.t) ∧ w'.cell? ⟨wr.heap.size, 3, none⟩ = some (.slice a9 n9 c9))
                (first | go_keep | exact y1 | exact z1)
                (first
                | (go_at_call 32
                   have hpd := HPX.out.below (ext_drew _)
                   refine (HCW.out _ (by exact hpd.led) (by exact hpd.fresh)).mono ?_
                   rintro e w4 ⟨rfl, hc4, hg4⟩
                   have hr4 := hpd.refOnly hg4
                   have hcp := (hg4.block wr.heap.size (by show wr.heap.size < (wr.alloc _).heap.size; simp) (by intro e; injection e with e; omega)).trans HW0.out
                   have y1 : w4.cell? ⟨wr.heap.size, 1, none⟩ = some (.int .i64 E.x) ∧ w4.cell? ⟨wr.heap.size, 2, none⟩ = some (.int .i64 E.t) ∧ w4.cell? ⟨wr.heap.size, 3, none⟩ = some (.slice a9 n9 c9) := ⟨by simp [World.cell?, hcp], by simp [World.cell?, hcp], by simp [World.cell?, hcp]⟩
                   have HPD := hid hpd
                   have HC4 := hid hc4
                   have HG4 := hid hg4
                   have HR4 := hid hr4
                   have HW4 := hid hcp
                   have HF4 := hid (fun q hq => HPD.out.fresh q (Nat.le_trans HG4.out.size hq) : ∀ q, w4.heap.size ≤ q → q ≠ g ∧ q ≠ b')
                   have HX4 := hid ((Ext.trans' hxX (ext_drew _)).grown hg4 (Ext.trans' hxX (ext_drew _)).size (fun q hq => by cases hq; exact HPX.out.hg) : Ext w w4)
                   clear hpd hc4 hg4 hr4 hcp)
                | (go_at_call 36
                   refine (HRW.out _ (by exact HR4.out)).mono ?_
                   rintro e w5 ⟨rfl, hr5, hg5⟩
                   have hcp := (hg5.block wr.heap.size ((Array.getElem?_eq_some_iff.1 HW4.out).1) (by intro e; injection e with e; omega)).trans HW4.out
                   have z1 : w5.cell? ⟨wr.heap.size, 1, none⟩ = some (.int .i64 E.x) ∧ w5.cell? ⟨wr.heap.size, 2, none⟩ = some (.int .i64 E.t) ∧ w5.cell? ⟨wr.heap.size, 3, none⟩ = some (.slice a9 n9 c9) := ⟨by simp [World.cell?, hcp], by simp [World.cell?, hcp], by simp [World.cell?, hcp]⟩
                   have HPN := hid (HPD.out.next HC4.out HG4.out hr5 hg5 HOKR.out HLENR.out)
                   have HXN := hid (HPD.out.ext (Ext.trans' hxX (ext_drew _)) HG4.out hg5)
                   clear hr5 hg5 hcp))
              all_goals
                go_wp2_with fail
                refine (tells_at HPN.out.led HPN.out.ref HPN.out.ok (by have := HPN.out.len; omega)).mono ?_
                rintro e w6 ⟨rfl, hb6⟩
                go_wp2_with fail
                go_roundw
                case rel => exact ⟨k + 1, g, s', by omega, by go_num, rfl, HPN.out.below hb6, Ext.trans' HXN.out hb6⟩
                case measure => simp [intOf]; omega
            · have hcw := fun W (h : LedAt (fun q => q ≠ g ∧ q ≠ b') W g s) hF => RebaseW h hF HPX.out.ok E.x E.t hx64
              have hrw := fun W (h : RefAt (fun q => q ≠ g ∧ q ≠ b') W b' s) hF => RRebaseW h hF HPX.out.ok E.x E.t hx64
              have hokr := HPX.out.ok.rebS E.x E.t
              have hlenr := LS.rebS_len s E.x E.t
              generalize LS.rebS s E.x E.t = r at *
              obtain ⟨z, s'⟩ := r
              have HCW := hid hcw
              have HRW := hid hrw
              have HOKR := hid hokr
              have HLENR := hid (show s'.l.length ≤ 200 + totE ((D.map DoS.l).take (k + 1)) by have := HPX.out.len; have := HM.out; dsimp only at hlenr; omega)
              clear hcw hrw hokr hlenr
              go_region_held3 (fun w' => w'.cell? ⟨wr.heap.size, 1, none⟩ = some (.int .i64 E.x) ∧ w'.cell? ⟨wr.heap.size, 2, none⟩ = some (.int .i64 E.t) ∧ w'.cell? ⟨wr.heap.size, 3, none⟩ = some (.slice a9 n9 c9))
                (first | go_keep | exact y1 | exact z1)
                (first
                | (go_at_call 34
                   have hpd := HPX.out.below (ext_drew _)
                   refine (HCW.out _ (by exact hpd.led) (by exact hpd.fresh)).mono ?_
                   rintro e w4 ⟨rfl, hc4, hg4⟩
                   have hr4 := hpd.refOnly hg4
                   have hcp := (hg4.block wr.heap.size (by show wr.heap.size < (wr.alloc _).heap.size; simp) (by intro e; injection e with e; omega)).trans HW0.out
                   have y1 : w4.cell? ⟨wr.heap.size, 1, none⟩ = some (.int .i64 E.x) ∧ w4.cell? ⟨wr.heap.size, 2, none⟩ = some (.int .i64 E.t) ∧ w4.cell? ⟨wr.heap.size, 3, none⟩ = some (.slice a9 n9 c9) := ⟨by simp [World.cell?, hcp], by simp [World.cell?, hcp], by simp [World.cell?, hcp]⟩
                   have HPD := hid hpd
                   have HC4 := hid hc4
                   have HG4 := hid hg4
                   have HR4 := hid hr4
                   have HW4 := hid hcp
                   have HF4 := hid (fun q hq => HPD.out.fresh q (Nat.le_trans HG4.out.size hq) : ∀ q, w4.heap.size ≤ q → q ≠ g ∧ q ≠ b')
                   have HX4 := hid ((Ext.trans' hxX (ext_drew _)).grown hg4 (Ext.trans' hxX (ext_drew _)).size (fun q hq => by cases hq; exact HPX.out.hg) : Ext w w4)
                   clear hpd hc4 hg4 hr4 hcp)
                | (go_at_call 37
                   refine (HRW.out _ (by exact HR4.out) HF4.out).mono ?_
                   rintro e w5 ⟨rfl, hr5, hg5⟩
                   have hcp := (hg5.block wr.heap.size ((Array.getElem?_eq_some_iff.1 HW4.out).1) (by intro e; injection e with e; omega)).trans HW4.out
                   have z1 : w5.cell? ⟨wr.heap.size, 1, none⟩ = some (.int .i64 E.x) ∧ w5.cell? ⟨wr.heap.size, 2, none⟩ = some (.int .i64 E.t) ∧ w5.cell? ⟨wr.heap.size, 3, none⟩ = some (.slice a9 n9 c9) := ⟨by simp [World.cell?, hcp], by simp [World.cell?, hcp], by simp [World.cell?, hcp]⟩
                   have HPN := hid (HPD.out.next HC4.out HG4.out hr5 hg5 HOKR.out HLENR.out)
                   have HXN := hid (HPD.out.ext (Ext.trans' hxX (ext_drew _)) HG4.out hg5)
                   clear hr5 hg5 hcp))
              all_goals
                go_wp2_with fail
                refine (tells_at HPN.out.led HPN.out.ref HPN.out.ok (by have := HPN.out.len; omega)).mono ?_
                rintro e w6 ⟨rfl, hb6⟩
                go_wp2_with fail
                go_roundw
                case rel => exact ⟨k + 1, g, s', by omega, by go_num, rfl, HPN.out.below hb6, Ext.trans' HXN.out hb6⟩
                case measure => simp [intOf]; omega
            · have hm1 := Merge_any HPX.out.led HPX.out.ok E.x E.t hx64 (HE.out.below hxX)
              have hm2 := fun W (h : RefAt (fun q => q ≠ g ∧ q ≠ b') W b' s) (hm : EsF (fun q => q < w.heap.size) W a9 n9 c9 E.l) => RMerge_any h HPX.out.ok E.x E.t hx64 hm
              have hml := LS.merge_len s E.x E.t E.l
              generalize s.merge E.x E.t E.l = r at *
              obtain ⟨fr, M, bok⟩ := r
              dsimp only at hml
              have HM1 := hid hm1
              have HM2 := hid hm2
              have hM200 : M.length ≤ 200 := by have := HM.out; omega
              have hm200 : m ≤ 200 := by have := HM.out; omega
              have hMm : 200 + m + M.length ≤ 200 + totE ((D.map DoS.l).take (k + 1)) := by have := HM.out; omega
              have HMM := hid hMm
              clear hm1 hm2 hml hMm
              refine Calls.mono HM1.out ?_
              rintro e w4 ⟨v4, rfl, hown4, hb4⟩
              obtain ⟨a4, c4, rfl, he4⟩ := hown4.es
              have hcp := (hb4.block wr.heap.size (by simp)).trans HW0.out
              have y1 : w4.cell? ⟨wr.heap.size, 1, none⟩ = some (.int .i64 E.x) ∧ w4.cell? ⟨wr.heap.size, 2, none⟩ = some (.int .i64 E.t) ∧ w4.cell? ⟨wr.heap.size, 3, none⟩ = some (.slice a9 n9 c9) := ⟨by simp [World.cell?, hcp], by simp [World.cell?, hcp], by simp [World.cell?, hcp]⟩
              obtain ⟨y1, y2, y3⟩ := y1
              have HP4 := hid (HPX.out.below hb4)
              have HX4 := hid (Ext.trans' hxX hb4)
              have HE4 := hid he4
              have HL4 := hid (HE.out.below HX4.out)
              have hz4 : wr.heap.size < w4.heap.size := by have := hb4.size; simp at this; omega
              clear hown4 hb4 he4 hcp HM1
              dsimp only
              go_wp2_with fail
              refine Calls.mono (HM2.out _ (by exact HP4.out.ref) (by exact HL4.out)) ?_
              rintro e w5 ⟨a5, c5, rfl, he5, hb5⟩
              have HP5 := hid (HP4.out.below hb5)
              have HX5 := hid (Ext.trans' HX4.out hb5)
              have HM4 := hid ((HE4.out.below hb5).more (G := fun q => q ≠ g ∧ q ≠ b') fun q hq => by simp at hq; omega)
              have HM5 := hid (he5.more (G := fun q => q ≠ g ∧ q ≠ b') fun q hq => by have := HP4.out.hg; have := HP4.out.hb; omega)
              have hz5 : w4.heap.size ≤ w5.heap.size := hb5.size
              clear he5 hb5 y1 y2 y3 HM2 HE4 HL4
              dsimp only
              go_wp2_with fail
              refine Calls.mono (Same_any _ HM4.out HM5.out) ?_
              rintro e w' ⟨rfl, q0, rfl⟩
              have HP6 := hid (HP5.out.below (ext_drewN w5 q0))
              have HX6 := hid (Ext.trans' HX5.out (ext_drewN w5 q0))
              have HM46 := hid (HM4.out.below (ext_drewN w5 q0))
              have HM56 := hid (HM5.out.below (ext_drewN w5 q0))
              have HF6 := hid HP6.out.fresh
              by_cases hfr : 0 < fr
              · have hfb : decide (0 < fr) = true := by simpa using hfr
                have hcw := fun W (h : LedAt (fun q => q ≠ g ∧ q ≠ b') W g s) hF => CutW h hF HPX.out.ok fr
                have hrw := fun W (h : RefAt (fun q => q ≠ g ∧ q ≠ b') W b' s) => RCutW h HPX.out.ok fr
                have hokr := HPX.out.ok.cutS fr
                have hlenr := LS.cutS_len s fr
                generalize LS.cutS s fr = r at *
                obtain ⟨z, s'⟩ := r
                have HCW := hid hcw
                have HRW := hid hrw
                have HOKR := hid hokr
                have HLENR := hid (show s'.l.length ≤ 200 + m by have := HPX.out.len; dsimp only at hlenr; omega)
                clear hcw hrw hokr hlenr
                go_wp2_with fail
                refine Calls.mono (HCW.out _ (by exact HP6.out.led) (by exact HP6.out.fresh)) ?_
                rintro e w7 ⟨rfl, hc7, hg7⟩
                have HC7 := hid hc7
                have HG7 := hid hg7
                have HR7 := hid (HP6.out.refOnly hg7)
                clear hc7 hg7
                go_wp2_with fail
                refine Calls.mono (HRW.out _ (by exact HR7.out)) ?_
                rintro e w8 ⟨rfl, hr8, hg8⟩
                have HPN := hid (HP6.out.next HC7.out HG7.out hr8 hg8 HOKR.out HLENR.out)
                have HXN := hid (HP6.out.ext HX6.out HG7.out hg8)
                have HN4 := hid ((HM46.out.only HG7.out (fun e => e.1 rfl)).only hg8 (fun e => e.2 rfl))
                have HN5 := hid ((HM56.out.only HG7.out (fun e => e.1 rfl)).only hg8 (fun e => e.2 rfl))
                clear hr8 hg8
                by_cases hz : z = 0
                · subst hz
                  have hcw := fun W (h : LedAt (fun q => q ≠ g ∧ q ≠ b') W g s') hF (hm : EsF (fun q => q ≠ g ∧ q ≠ b') W a4 M.length c4 M) => AddW h hF HOKR.out hm (by have := HPN.out.len; omega)
                  have hrw := fun W (h : RefAt (fun q => q ≠ g ∧ q ≠ b') W b' s') hF (hm : EsF (fun q => q ≠ g ∧ q ≠ b') W a5 M.length c5 M) => RAddW h hF (fun q hq _ => hq) HOKR.out hm (by have := HPN.out.len; omega)
                  have hokr := LS.Ok.addS HOKR.out M
                  have hlenr := LS.addS_len s' M
                  generalize LS.addS s' M = r at *
                  obtain ⟨z2, s2⟩ := r
                  have HCW2 := hid hcw
                  have HRW2 := hid hrw
                  have HOKR2 := hid hokr
                  have HLENR2 := hid (show s2.l.length ≤ 200 + totE ((D.map DoS.l).take (k + 1)) by have := HPN.out.len; have := HMM.out; dsimp only at hlenr; omega)
                  clear hcw hrw hokr hlenr
                  go_wp2_with fail
                  refine Calls.mono (HCW2.out _ (by exact HPN.out.led) (by exact HPN.out.fresh) (by exact HN4.out)) ?_
                  rintro e w9 ⟨rfl, hc9, hg9⟩
                  have HC9 := hid hc9
                  have HG9 := hid hg9
                  have HR9 := hid (HPN.out.refOnly hg9)
                  have HM59 := hid (HN5.out.only hg9 (fun e => e.1 rfl))
                  have HF9 := hid (fun q hq => HPN.out.fresh q (Nat.le_trans hg9.size hq) : ∀ q, w9.heap.size ≤ q → q ≠ g ∧ q ≠ b')
                  clear hc9 hg9
                  go_wp2_with fail
                  refine Calls.mono (HRW2.out _ (by exact HR9.out) HF9.out (by exact HM59.out)) ?_
                  rintro e w10 ⟨rfl, hr10, hg10⟩
                  have HPE := hid (HPN.out.next HC9.out HG9.out hr10 hg10 HOKR2.out HLENR2.out)
                  have HXE := hid (HPN.out.ext HXN.out HG9.out hg10)
                  clear hr10 hg10
                  go_wp2_with fail
                  refine (tells_at HPE.out.led HPE.out.ref HPE.out.ok (by have := HPE.out.len; omega)).mono ?_
                  rintro e w11 ⟨rfl, hb11⟩
                  go_wp2_with fail
                  go_roundw
                  case rel => exact ⟨k + 1, g, s2, by omega, by go_num, rfl, HPE.out.below hb11, Ext.trans' HXE.out hb11⟩
                  case measure => simp [intOf]; omega
                · have hzb : (z == 0) = false := by simpa using hz
                  have hzc : (0 == z) = false := by simpa using (Ne.symm hz)
                  have HLN := hid (show s'.l.length ≤ 12000 by have := HPN.out.len; omega)
                  have HPM := hid (show PlayAt w.heap.size w8 g b' s' (200 + totE ((D.map DoS.l).take (k + 1))) from ⟨HPN.out.led, HPN.out.ref, HPN.out.ok, by have := HPN.out.len; have := HMM.out; omega, HPN.out.ne, HPN.out.hg, HPN.out.hb⟩)
                  clear hz
                  go_wp2_with fail
                  refine (tells_at HPN.out.led HPN.out.ref HPN.out.ok HLN.out).mono ?_
                  rintro e w11 ⟨rfl, hb11⟩
                  go_wp2_with fail
                  go_roundw
                  case rel => exact ⟨k + 1, g, s', by omega, by go_num, rfl, HPM.out.below hb11, Ext.trans' HXN.out hb11⟩
                  case measure => simp [intOf]; omega
              · have hfb : decide (0 < fr) = false := by simpa using hfr
                have hcw := fun W (h : LedAt (fun q => q ≠ g ∧ q ≠ b') W g s) hF (hm : EsF (fun q => q ≠ g ∧ q ≠ b') W a4 M.length c4 M) => AddW h hF HP6.out.ok hm (by have := HP6.out.len; omega)
                have hrw := fun W (h : RefAt (fun q => q ≠ g ∧ q ≠ b') W b' s) hF (hm : EsF (fun q => q ≠ g ∧ q ≠ b') W a5 M.length c5 M) => RAddW h hF (fun q hq _ => hq) HP6.out.ok hm (by have := HP6.out.len; omega)
                have hokr := LS.Ok.addS HP6.out.ok M
                have hlenr := LS.addS_len s M
                generalize LS.addS s M = r at *
                obtain ⟨z2, s2⟩ := r
                have HCW2 := hid hcw
                have HRW2 := hid hrw
                have HOKR2 := hid hokr
                have HLENR2 := hid (show s2.l.length ≤ 200 + totE ((D.map DoS.l).take (k + 1)) by have := HP6.out.len; have := HMM.out; dsimp only at hlenr; omega)
                clear hcw hrw hokr hlenr
                go_wp2_with fail
                refine Calls.mono (HCW2.out _ (by exact HP6.out.led) (by exact HP6.out.fresh) (by exact HM46.out)) ?_
                rintro e w9 ⟨rfl, hc9, hg9⟩
                have HC9 := hid hc9
                have HG9 := hid hg9
                have HR9 := hid (HP6.out.refOnly hg9)
                have HM59 := hid (HM56.out.only hg9 (fun e => e.1 rfl))
                have HF9 := hid (fun q hq => HP6.out.fresh q (Nat.le_trans hg9.size hq) : ∀ q, w9.heap.size ≤ q → q ≠ g ∧ q ≠ b')
                clear hc9 hg9
                go_wp2_with fail
                refine Calls.mono (HRW2.out _ (by exact HR9.out) HF9.out (by exact HM59.out)) ?_
                rintro e w10 ⟨rfl, hr10, hg10⟩
                have HPE := hid (HP6.out.next HC9.out HG9.out hr10 hg10 HOKR2.out HLENR2.out)
                have HXE := hid (HP6.out.ext HX6.out HG9.out hg10)
                clear hr10 hg10
                go_wp2_with fail
                refine (tells_at HPE.out.led HPE.out.ref HPE.out.ok (by have := HPE.out.len; omega)).mono ?_
                rintro e w11 ⟨rfl, hb11⟩
                go_wp2_with fail
                go_roundw
                case rel => exact ⟨k + 1, g, s2, by omega, by go_num, rfl, HPE.out.below hb11, Ext.trans' HXE.out hb11⟩
                case measure => simp [intOf]; omega
            · refine (Clone_at HPX.out.led).mono ?_
              rintro e w4 ⟨g', rfl, hc4, hg4, hb4⟩
              have HP4 := hid (HPX.out.below hb4)
              have HC4 := hid hc4
              have HB4 := hid hb4
              have HX4 := hid (Ext.trans' hxX hb4)
              have HG4 := hid hg4
              have hadd := AddW (F := fun q => q ≠ g ∧ q ≠ b') (more := twoE) (HP4.out.led.below (ext_alloc w4 (.cells #[.int .i64 1, .int .i64 1, .slice none 0 0, .int .i64 2, .int .i64 1, .slice none 0 0] 54))) (fun q hq => HP4.out.fresh q (by simp at hq; omega)) HP4.out.ok (two_es w4) (by have := HP4.out.len; have := HM.out; simp [twoE]; omega)
              have hok5 := HP4.out.ok.addS twoE
              generalize LS.addS s twoE = r5 at *
              obtain ⟨z5, s5⟩ := r5
              have HADD := hid hadd
              have HOK5 := hid hok5
              have hg4l : g' < w4.heap.size := hc4.lt
              clear hc4 hb4 hg4 hadd hok5
              go_wp2_with fail
              refine Calls.mono HADD.out ?_
              rintro e w5 ⟨rfl, hc5, hg5⟩
              have hcut := CutW hc5 (fun q hq => HP4.out.fresh q (by have := hg5.size; simp at this; omega)) HOK5.out 1
              generalize LS.cutS s5 1 = r6 at *
              obtain ⟨z6, s6⟩ := r6
              have HCUT := hid hcut
              have HGG := hid ((World.grownBy_alloc w4 _ (some g)).trans hg5)
              clear hc5 hg5 hcut HADD HOK5
              go_wp2_with fail
              refine Calls.mono HCUT.out ?_
              rintro e w6 ⟨rfl, -, hg6⟩
              have HPN := hid (HPX.out.turn HC4.out HB4.out HG4.out (HGG.out.trans hg6) (show 200 + m ≤ 200 + totE ((D.map DoS.l).take (k + 1)) by have := HM.out; omega))
              have HXN := hid (HX4.out.grown (HGG.out.trans hg6) HX4.out.size (fun q hq => by cases hq; exact HPX.out.hg) : Ext w w6)
              clear hg6 HCUT HGG
              go_wp2_with fail
              refine (tells_at HPN.out.led HPN.out.ref HPN.out.ok (by have := HPN.out.len; omega)).mono ?_
              rintro e w7 ⟨rfl, hb7⟩
              go_wp2_with fail
              go_roundw
              case rel => exact ⟨k + 1, g', s, by omega, by go_num, rfl, HPN.out.below hb7, Ext.trans' HXN.out hb7⟩
              case measure => simp [intOf]; omega
            · have hcw := fun W (h : LedAt (fun q => q ≠ g ∧ q ≠ b') W g s) hF (hm : EsF (fun q => q < w.heap.size) W a9 n9 c9 E.l) => AddW h hF HPX.out.ok hm (by have := HPX.out.len; have := HM.out; omega)
              have hrw := fun W (h : RefAt (fun q => q ≠ g ∧ q ≠ b') W b' s) hF (hm : EsF (fun q => q < w.heap.size) W a9 n9 c9 E.l) => RAddW h hF (fun q hq _ => by have := HPX.out.hg; have := HPX.out.hb; omega) HPX.out.ok hm (by have := HPX.out.len; have := HM.out; omega)
              have hokr := HPX.out.ok.addS E.l
              have hlenr := LS.addS_len s E.l
              generalize LS.addS s E.l = r at *
              obtain ⟨z, s'⟩ := r
              have HCW := hid hcw
              have HRW := hid hrw
              have HOKR := hid hokr
              have HLENR := hid (show s'.l.length ≤ 200 + totE ((D.map DoS.l).take (k + 1)) by have := HPX.out.len; have := HM.out; dsimp only at hlenr; omega)
              clear hcw hrw hokr hlenr
              go_region_held3 (fun w' => w'.cell? ⟨wr.heap.size, 1, none⟩ = some (.int .i64 E.x) ∧ w'.cell? ⟨wr.heap.size, 2, none⟩ = some (.int .i64 E.t) ∧ w'.cell? ⟨wr.heap.size, 3, none⟩ = some (.slice a9 n9 c9))
                (first | go_keep | exact y1 | exact z1)
                (first
                | (go_at_call 33
                   have hpd := HPX.out.below (ext_drew _)
                   refine (HCW.out _ (by exact hpd.led) (by exact hpd.fresh) (by exact HE.out.below (Ext.trans' hxX (ext_drew _)))).mono ?_
                   rintro e w4 ⟨rfl, hc4, hg4⟩
                   have hr4 := hpd.refOnly hg4
                   have hcp := (hg4.block wr.heap.size (by show wr.heap.size < (wr.alloc _).heap.size; simp) (by intro e; injection e with e; omega)).trans HW0.out
                   have y1 : w4.cell? ⟨wr.heap.size, 1, none⟩ = some (.int .i64 E.x) ∧ w4.cell? ⟨wr.heap.size, 2, none⟩ = some (.int .i64 E.t) ∧ w4.cell? ⟨wr.heap.size, 3, none⟩ = some (.slice a9 n9 c9) := ⟨by simp [World.cell?, hcp], by simp [World.cell?, hcp], by simp [World.cell?, hcp]⟩
                   have HPD := hid hpd
                   have HC4 := hid hc4
                   have HG4 := hid hg4
                   have HR4 := hid hr4
                   have HW4 := hid hcp
                   have HF4 := hid (fun q hq => HPD.out.fresh q (Nat.le_trans HG4.out.size hq) : ∀ q, w4.heap.size ≤ q → q ≠ g ∧ q ≠ b')
                   have HX4 := hid ((Ext.trans' hxX (ext_drew _)).grown hg4 (Ext.trans' hxX (ext_drew _)).size (fun q hq => by cases hq; exact HPX.out.hg) : Ext w w4)
                   clear hpd hc4 hg4 hr4 hcp)
                | (go_at_call 38
                   refine (HRW.out _ (by exact HR4.out) HF4.out (by exact HE.out.below HX4.out)).mono ?_
                   rintro e w5 ⟨rfl, hr5, hg5⟩
                   have hcp := (hg5.block wr.heap.size ((Array.getElem?_eq_some_iff.1 HW4.out).1) (by intro e; injection e with e; omega)).trans HW4.out
                   have z1 : w5.cell? ⟨wr.heap.size, 1, none⟩ = some (.int .i64 E.x) ∧ w5.cell? ⟨wr.heap.size, 2, none⟩ = some (.int .i64 E.t) ∧ w5.cell? ⟨wr.heap.size, 3, none⟩ = some (.slice a9 n9 c9) := ⟨by simp [World.cell?, hcp], by simp [World.cell?, hcp], by simp [World.cell?, hcp]⟩
                   have HPN := hid (HPD.out.next HC4.out HG4.out hr5 hg5 HOKR.out HLENR.out)
                   have HXN := hid (HPD.out.ext (Ext.trans' hxX (ext_drew _)) HG4.out hg5)
                   clear hr5 hg5 hcp))
              all_goals
                go_wp2_with fail
                refine (tells_at HPN.out.led HPN.out.ref HPN.out.ok (by have := HPN.out.len; omega)).mono ?_
                rintro e w6 ⟨rfl, hb6⟩
                go_wp2_with fail
                go_roundw
                case rel => exact ⟨k + 1, g, s', by omega, by go_num, rfl, HPN.out.below hb6, Ext.trans' HXN.out hb6⟩
                case measure => simp [intOf]; omega
          · go_wp2_with fail
            have hp := HP.out
            have hlen : s.l.length ≤ 12000 := by have := hp.len; have := totE_take_le (D.map DoS.l) k; have := hD200.out; omega
            refine (tells_at hp.led hp.ref hp.ok hlen).mono ?_
            rintro e w4 ⟨rfl, hb4⟩
            clear hp
            go_wp2_with fail
            refine (awake_any _).mono ?_
            rintro e w5 ⟨rfl, hb5⟩
            go_wp2
            go_ret
            exact ⟨rfl, Ext.trans' hx (Ext.trans' hb4 hb5)⟩
      · refine (made_bad i t a n c l _ HI.out (by exact HL.out.below hx2) hok).mono ?_
        rintro e w3 ⟨rfl, hx3⟩
        go_wp2_with fail
        refine (awake_any _).mono ?_
        rintro e w4 ⟨rfl, hb4⟩
        go_wp2
        go_ret
        exact ⟨rfl, Ext.trans' hx2 (Ext.trans' hx3 hb4)⟩
end Go.Proofs.Ytjcmgkdlkadfmaa
