/- The walks of the law's own, of Same, of Last. -/
import Derived.Test.YtikjckdoldiddaaGreatDoorC11
import Derived.Test.YtikjckdoldiddaaGreatDoorC01
import Derived.Test.YtikjckdoldiddaaGreatDoorC21
import Derived.Test.YtikjckdoldiddaaGreatDoorC00
namespace Go.Proofs.YtikjckdoldiddaaGreatDoor
open Go.RowKit Go.Maps
set_option linter.unusedVariables false
set_option linter.unusedSimpArgs false
attribute [local go_sem] bmax2 bmin2 bmax_two bmin_two

/-- The loop that gives each entry bytes of its own: its end. -/
theorem own_end {ent : TypeId} {w wr : World} {A : Option Addr} {cap : Nat} {l : List Ent} (h0 : A = none → l = [] ∧ cap = 0) (hA : ∀ p, A = some p → p.off = 0 ∧ p.spot = none ∧ w.heap.size ≤ p.block) (hm : ∀ p, A = some p → MixAt (fun b => b < w.heap.size) wr p.block cap ent l l.length) : OwnE ent w.heap.size wr (.slice A l.length cap) l := by
  cases A with
  | none => exact .inl ⟨by rw [(h0 rfl).1, (h0 rfl).2]; rfl, (h0 rfl).1⟩
  | some p =>
    obtain ⟨h1, h2, hge⟩ := hA _ rfl
    obtain ⟨pb, po, ps⟩ := p
    dsimp only at h1 h2 hge
    subst h1; subst h2
    exact .inr ⟨pb, cap, rfl, hge, (hm _ rfl).own⟩
set_option maxRecDepth 100000 in
set_option maxHeartbeats 2000000 in
theorem lown_any {F : Nat → Prop} {w : World} {a : Option Addr} {n c : Nat} {l : List Ent} (hl : EsF F w a n c l) :
    Calls Tryz.prog 28 #[.slice a n c] w fun e w' => ∃ v, e = .returned v ∧ OwnE 46 w.heap.size w' v l ∧ Ext w w' := by
  obtain ⟨H, hH, hrow, hHl⟩ := hl.raw
  have h64 := hl.h64
  obtain ⟨rfl, -, ⟨-, hn4⟩, hca, -⟩ := hl
  have hcall := cloneE_any a l.length c H w hH.symm hn4 hca hrow
  clear hrow hca
  have HC := hid hcall
  have HH := hid hH
  have HL := hid hHl
  have H6 := hid h64
  clear hcall hH hHl h64
  go_enter Tryz.func28, Tryz.ntmps28
  go_wp2_with fail
  refine Calls.mono HC.out ?_
  rintro e w1 ⟨v, rfl, hown, hb1⟩
  obtain ⟨A, cap, rfl, hA0, hA⟩ := MixAt.start HH.out hn4 hb1 hown HL.out H6.out
  clear hown
  have HB := hid hb1
  have HA := hid hA
  have H0 := hid hA0
  clear hA0 hA hb1 HC HH HL H6
  go_wp2
  go_loopw [4, 9] (fun _ z wr => ∃ k : Nat, k ≤ l.length ∧ z = .int .i64 k ∧ Hid (Ext w wr) ∧ Hid (∀ p, A = some p → MixAt (fun b => b < w.heap.size) wr p.block cap 46 l k))
    (fun _ z _ => l.length - (intOf z).toNat)
  case atStart => exact ⟨0, Nat.zero_le _, rfl, HB.out, fun p hp => (HA.out p hp).2.2.2⟩
  obtain ⟨k, hk, rfl, hb, hm⟩ := hrel
  by_cases hlt : k < l.length
  · cases A with
    | none => rw [(H0.out rfl).1] at hlt; simp at hlt
    | some p =>
      obtain ⟨pb, po, ps⟩ := p
      obtain ⟨h1, h2, hge, -⟩ := HA.out _ rfl
      dsimp only at h1 h2 hge
      subst h1; subst h2
      have hmk := hm.out _ rfl
      dsimp only at hmk
      obtain ⟨-, -, hc0, -, a', n', c', hc2, hd⟩ := hmk.old k hlt (Nat.le_refl _)
      have hd1 := hd.1
      have HM := hid hmk
      have HD := hid hd
      clear hm hmk hd HA H0
      subst hd1
      have hfz : wr.frozen? ⟨pb, k * 3 + 2, none⟩ = false := by
        obtain ⟨cur, hc, -⟩ := HM.out.row
        simp [World.frozen?, hc]
      have hpl := World.block_lt_of_cell? wr _ hc0
      dsimp only at hpl
      go_wp2_with fail
      refine (cloneB_raw HD.out).mono ?_
      rintro e w2 ⟨v2, rfl, hown2, hb2⟩
      obtain ⟨a2, c2, rfl, hy, hs⟩ := own_bytes hown2 HD.out.2.2.1.2
      have hc2' := (hb2.cell (p := ⟨pb, k * 3 + 2, none⟩) hpl).trans hc2
      have hfz' := (hb2.frozen (p := ⟨pb, k * 3 + 2, none⟩) hpl).trans hfz
      have HS := hid (HM.out.step hlt (by intro b hb; omega) hb2 hy hs)
      have HB2 := hid hb2
      clear hc2 hfz hown2 hy hs HM hc0 HD hb2
      go_wp2
      go_roundw
      case rel => exact ⟨k + 1, by omega, by go_num, (Ext.trans' hb.out HB2.out).setCell hge _, fun p hp => by cases hp; exact HS.out⟩
      case measure => simp [intOf]; omega
  have hkl : k = l.length := by omega
  subst hkl
  go_wp2
  go_ret
  exact ⟨_, rfl, own_end H0.out (fun p hp => ⟨(HA.out p hp).1, (HA.out p hp).2.1, (HA.out p hp).2.2.1⟩) hm.out, hb.out⟩
end Go.Proofs.YtikjckdoldiddaaGreatDoor

/- The walk of Same. -/
namespace Go.Proofs.YtikjckdoldiddaaGreatDoor
open Go.RowKit Go.Maps
set_option linter.unusedVariables false
set_option linter.unusedSimpArgs false
attribute [local go_sem] bmax2 bmin2 bmax_two bmin_two

def SamePost (l l' : List Ent) (w : World) (e : Ending) (w' : World) : Prop := ∃ bb, e = .returned (.bool bb) ∧ (bb = true ↔ l = l') ∧ ∃ q, w' = w.drewN q
theorem SamePost.no {l l' : List Ent} {w : World} (h : l ≠ l') (q : Nat) : SamePost l l' w (.returned (.bool false)) (w.drewN q) := ⟨false, rfl, ⟨(fun e => by cases e), fun e => absurd e h⟩, q, rfl⟩
theorem take_step {l l' : List Ent} {k : Nat} (h : l.take k = l'.take k) (h1 : k < l.length) (h2 : k < l'.length) (he : l[k] = l'[k]) : l.take (k + 1) = l'.take (k + 1) := by
  rw [List.take_succ_eq_append_getElem h1, List.take_succ_eq_append_getElem h2, h, he]
theorem ne_at {l l' : List Ent} {k : Nat} (h1 : k < l.length) (h2 : k < l'.length) (he : l[k] ≠ l'[k]) : l ≠ l' := fun e => by
  subst e; exact he rfl
set_option maxRecDepth 100000 in
set_option maxHeartbeats 4000000 in
theorem Same_any {F G : Nat → Prop} {a a' : Option Addr} {n n' c c' : Nat} {l l' : List Ent} {w : World} (h : EsF F w a n c l) (h' : EsF G w a' n' c' l') :
    Calls Tryz.prog 29 #[.slice a n c, .slice a' n' c'] w (SamePost l l' w) := by
  have hn := h.1
  have hn' := h'.1
  have h40 := h.2.2.1.2
  have H := hid h
  have H' := hid h'
  clear h h'
  by_cases hnn : n = n'
  · have hnb : (n != n') = false := by simpa using hnn
    have HN := hid hn
    have HN' := hid (show n = l'.length by omega)
    have hnl : n * 40 ≤ 140737488351232 := by omega
    subst hnn
    clear hn hn' h40
    go_enter Tryz.func29, Tryz.ntmps29
    go_wp2
    go_loopw [5, 13] (fun _ z wr => ∃ k : Nat, k ≤ n ∧ z = .int .i64 k ∧ (∃ q, wr = w.drewN q) ∧ Hid (l.take k = l'.take k)) (fun _ z _ => n - (intOf z).toNat)
    case atStart => exact ⟨0, Nat.zero_le _, rfl, ⟨0, rfl⟩, rfl⟩
    obtain ⟨k, hk, rfl, ⟨q, rfl⟩, HT⟩ := hrel
    by_cases hlt : k < n
    · obtain ⟨p, o, rfl, -, -, hkl, -, -, hc0, hc1, a1, n1, c1, hc2, hd1⟩ := H.out.at_ hlt
      obtain ⟨p', o', rfl, -, -, hkl', -, -, hc0', hc1', a2, n2, c2, hc2', hd2⟩ := H'.out.at_ hlt
      have v1 := fun q => conv_str (hd1.below (ext_drewN w q))
      have v2 := fun q => conv_str (hd2.below (ext_drewN w q))
      have hst : l[k] = l'[k] → l.take (k + 1) = l'.take (k + 1) := take_step HT.out hkl hkl'
      have hne : l[k] ≠ l'[k] → l ≠ l' := ne_at hkl hkl'
      clear hd1 hd2 HT
      generalize l[k] = E at *
      generalize l'[k] = E' at *
      have HST := hid hst
      have HNE := hid hne
      have hk0 : (0 : Int) ≤ (k : Int) := by omega
      clear hst hne
      obtain ⟨ei, et, ed⟩ := E
      obtain ⟨fi, ft, fd⟩ := E'
      dsimp only at *
      by_cases e1 : ei = fi
      · have b1 : (ei != fi) = false := by simpa using e1
        by_cases e2 : et = ft
        · have b2 : (et != ft) = false := by simpa using e2
          by_cases e3 : ed = fd
          · subst e1; subst e2; subst e3
            have HS := hid (HST.out rfl)
            clear b1 b2 HST HNE
            go_wp2_with fail
            go_quiet (fail)
            go_wp2
            go_roundw
            case rel => exact ⟨k + 1, by omega, by go_num, by first | exact ⟨_, rfl⟩ | exact ⟨_, World.drewN_drewN _ _ _⟩, HS.out⟩
            case measure => simp [intOf]; omega
          have b3 : (ed == fd) = false := by simpa using e3
          have HS := hid (HNE.out fun e => by injection e with _ _ e; exact e3 e)
          subst e1; subst e2
          clear b1 b2 HST HNE e3
          go_wp2_with fail
          go_quiet (fail)
          go_wp2
          go_ret
          rw [World.drewN_drewN]
          exact SamePost.no HS.out _
        have b2 : (et != ft) = true := by simpa using e2
        have HS := hid (HNE.out fun e => by injection e with _ e _; exact e2 e)
        subst e1
        clear b1 HST HNE e2
        go_wp2_with fail
        go_quiet (fail)
        go_wp2
        go_ret
        rw [World.drewN_drewN]
        exact SamePost.no HS.out _
      have b1 : (ei != fi) = true := by simpa using e1
      have HS := hid (HNE.out fun e => by injection e with e _ _; exact e1 e)
      clear HST HNE e1
      go_wp2_with fail
      go_quiet (fail)
      go_wp2
      go_ret
      rw [World.drewN_drewN]
      exact SamePost.no HS.out _
    have HE := hid (show l = l' by have h1 := HT.out; rwa [List.take_of_length_le (by have := HN.out; omega), List.take_of_length_le (by have := HN'.out; omega)] at h1)
    clear HT
    go_wp2
    go_ret
    exact ⟨true, rfl, ⟨fun _ => HE.out, fun _ => rfl⟩, q, rfl⟩
  have hnb : (n != n') = true := by simpa using hnn
  have HS := hid (show l ≠ l' from fun e => by subst e; omega)
  clear hnn hn hn'
  go_enter Tryz.func29, Tryz.ntmps29
  go_wp2
  go_ret
  exact SamePost.no (q := 0) HS.out
end Go.Proofs.YtikjckdoldiddaaGreatDoor

/- The walk of Entries. -/
namespace Go.Proofs.YtikjckdoldiddaaGreatDoor
open Go.RowKit Go.Maps
set_option linter.unusedVariables false
set_option linter.unusedSimpArgs false
attribute [local go_sem] bmax2 bmin2 bmax_two bmin_two

set_option maxRecDepth 100000 in
set_option maxHeartbeats 4000000 in
theorem LEntries_any {A : Nat → Prop} {w : World} {g dg : Nat} {v : Lo} (h : LoAt A w g dg v) :
    Calls Tryz.prog 32 #[.pointer (some ⟨g, 0, none⟩)] w fun e w' => ∃ r, e = .returned r ∧ OwnE 46 w.heap.size w' r v.s.v.l ∧ Ext w w' := by
  obtain ⟨D, G, -, h2, -⟩ := h
  have c5 := h2.cells.1
  have hgl := h2.lt
  obtain ⟨la, ln, lc, h1, hl⟩ := h2
  have c4 := (cells9 h1).1.2.2.2.2.1
  obtain ⟨l, hle⟩ : ∃ l, l = v.s.v.l := ⟨_, rfl⟩
  rw [← hle] at hl ⊢
  have HM := hid (lmade_any c5)
  obtain ⟨H, hH, hrow, hHl⟩ := hl.raw
  have h64 := hl.h64
  obtain ⟨rfl, -, ⟨-, hn4⟩, hca, -⟩ := hl
  have hcall := cloneE_any la l.length lc H w hH.symm hn4 hca hrow
  clear hrow hca h1 hle c5
  have HC := hid hcall
  have HH := hid hH
  have HL := hid hHl
  have H6 := hid h64
  clear hcall hH hHl h64
  go_enter Tryz.func32, Tryz.ntmps32
  go_wp2_with fail
  refine Calls.mono HM.out ?_
  rintro e w1 ⟨rfl, hw⟩
  subst hw
  go_wp2_with fail
  refine Calls.mono HC.out ?_
  rintro e w2 ⟨vv, rfl, hown, hb1⟩
  obtain ⟨A', cap, rfl, hA0, hA⟩ := MixAt.start HH.out hn4 hb1 hown HL.out H6.out
  clear hown
  have HB := hid hb1
  have HA := hid hA
  have H0 := hid hA0
  clear hA0 hA hb1 HC HH HL H6 HM c4
  go_wp2
  go_loopw [4, 16] (fun _ z wr => ∃ k : Nat, k ≤ l.length ∧ z = .int .i64 k ∧ Hid (Ext w1 wr) ∧ Hid (∀ p, A' = some p → MixAt (fun b => b < w1.heap.size) wr p.block cap 46 l k))
    (fun _ z _ => l.length - (intOf z).toNat)
  case atStart => exact ⟨0, Nat.zero_le _, rfl, HB.out, fun p hp => (HA.out p hp).2.2.2⟩
  obtain ⟨k, hk, rfl, hb, hm⟩ := hrel
  by_cases hlt : k < l.length
  · cases A' with
    | none => rw [(H0.out rfl).1] at hlt; simp at hlt
    | some p =>
      obtain ⟨pb, po, ps⟩ := p
      obtain ⟨h1, h2, hge, -⟩ := HA.out _ rfl
      dsimp only at h1 h2 hge
      subst h1; subst h2
      have hmk := hm.out _ rfl
      dsimp only at hmk
      obtain ⟨-, -, hc0, -, a', n', c', hc2, hd⟩ := hmk.old k hlt (Nat.le_refl _)
      have hd1 := hd.1
      have HM := hid hmk
      have HD := hid hd
      clear hm hmk hd HA H0
      subst hd1
      have hfz : wr.frozen? ⟨pb, k * 3 + 2, none⟩ = false := by
        obtain ⟨cur, hc, -⟩ := HM.out.row
        simp [World.frozen?, hc]
      have hpl := World.block_lt_of_cell? wr _ hc0
      dsimp only at hpl
      go_wp2_with fail
      refine (cloneB_raw HD.out).mono ?_
      rintro e w2 ⟨v2, rfl, hown2, hb2⟩
      obtain ⟨a2, c2, rfl, hy, hs⟩ := own_bytes hown2 HD.out.2.2.1.2
      have hc2' := (hb2.cell (p := ⟨pb, k * 3 + 2, none⟩) hpl).trans hc2
      have hfz' := (hb2.frozen (p := ⟨pb, k * 3 + 2, none⟩) hpl).trans hfz
      have HS := hid (HM.out.step hlt (by intro b hb; omega) hb2 hy hs)
      have HB2 := hid hb2
      clear hc2 hfz hown2 hy hs HM hc0 HD hb2
      go_wp2
      go_roundw
      case rel => exact ⟨k + 1, by omega, by go_num, (Ext.trans' hb.out HB2.out).setCell hge _, fun p hp => by cases hp; exact HS.out⟩
      case measure => simp [intOf]; omega
  have hkl : k = l.length := by omega
  subst hkl
  go_wp2
  go_ret
  exact ⟨_, rfl, own_end H0.out (fun p hp => ⟨(HA.out p hp).1, (HA.out p hp).2.1, (HA.out p hp).2.2.1⟩) hm.out, hb.out⟩
end Go.Proofs.YtikjckdoldiddaaGreatDoor
