/- The walks of slices.Clone at entries and at bytes, and of own. -/
import Derived.Test.YtjcmgkdlkadfmaaLw1
namespace Go.Proofs.Ytjcmgkdlkadfmaa
open Go.RowKit
set_option linter.unusedVariables false
set_option linter.unusedSimpArgs false

theorem info_u8 : (Try.prog.info? 5).map (fun i => (i.zero, i.size, i.bytes)) = some (some (.int .u8 0), 1, 1) := by kernel_rfl
theorem info_ent : (Try.prog.info? 54).map (fun i => (i.zero, i.size, i.bytes)) = some (some (.agg #[.int .i64 0, .int .i64 0, .slice none 0 0]), 3, 40) := by kernel_rfl

set_option maxHeartbeats 400000 in
theorem cloneB_any (F : Nat → Prop) (a : Option Addr) (n c : Nat) (d : List UInt8) (w : World) (hd : ByF F w a n c d) :
    Calls Try.prog 50 #[.slice a n c] w fun e w' => ∃ v, e = .returned v ∧ w'.ownsRow w.heap.size 5 1 v d.length (u8s d) ∧ Ext w w' := by
  have hn : n ≤ 140737488351232 := hd.2.2.1.2
  have hr := hd.raw
  have hc := hd.2.2.2.1
  obtain ⟨hdn, -⟩ := hd
  cases a with
  | none =>
    have h0 := hr.2.1 rfl
    have hc0 := hc rfl
    subst h0; subst hc0
    have hd0 : d = [] := List.eq_nil_of_length_eq_zero hdn.symm
    subst hd0
    clear hr hc hn hdn
    have he := fun W => Lib.run_eql_slice_nil (P := Try.prog) W 52 5 none 0 0 0 0 Try.underlying52
    go_enter Try.func50, Try.ntmps50
    go_wp2
    go_ret
    exact ⟨_, rfl, World.ownsRow_nil _ _ _ _, Below.refl _ _⟩
  | some p =>
    have hr' := hr.ext (ext_alloc w (.cells #[] 5))
    have HR := hid hr'
    clear hr hr' hc
    have HD := hid hdn
    clear hdn
    have he := fun W => Lib.run_eql_slice_nil (P := Try.prog) W 52 5 (some p) n c 0 0 Try.underlying52
    go_enter Try.func50, Try.ntmps50
    go_wp2_with (at_builtin; refine wpList_append_row rfl (.tmp 5) (.tmp 6) _ rfl w.heap.size 5 (.int .u8 0) 1 1 Try.underlying52 info_u8 rfl (by decide) (.slice (some ⟨w.heap.size, 0, none⟩) 0 0) 0 [] rfl (World.ownsRow_made w #[] 0 (Nat.le_refl _) (Nat.zero_le _) rfl) (some p) n c (u8s d) rfl (fun h => by cases h) HR.out (u8s_mem d) (by unfold maxLen; omega) (by omega) (by simp) ?_; intro v' w1 hown hg)
    go_ret
    refine ⟨v', rfl, ?_, ?_⟩
    · rw [← HD.out]; simpa using hown
    · exact (ext_alloc w _).grown hg (by simp) (by simp [Value.ownBlock])

set_option maxHeartbeats 400000 in
theorem cloneE_any (a : Option Addr) (n c : Nat) (H : List EH) (w : World) (hd : n = H.length) (hn : n * 40 ≤ 140737488351232) (hc : a = none → c = 0) (hr : RowAt w a n 3 (rawH H)) :
    Calls Try.prog 49 #[.slice a n c] w fun e w' => ∃ v, e = .returned v ∧ w'.ownsRow w.heap.size 54 3 v H.length (rawH H) ∧ Ext w w' := by
  have hdn := hd
  clear hd
  cases a with
  | none =>
    have h0 := hr.2.1 rfl
    have hc0 := hc rfl
    subst h0; subst hc0
    have hd0 : H = [] := List.eq_nil_of_length_eq_zero hdn.symm
    subst hd0
    clear hr hc hn hdn
    have he := fun W => Lib.run_eql_slice_nil (P := Try.prog) W 22 54 none 0 0 0 0 Try.underlying22
    go_enter Try.func49, Try.ntmps49
    go_wp2
    go_ret
    exact ⟨_, rfl, World.ownsRow_nil _ _ _ _, Below.refl _ _⟩
  | some p =>
    have hr' := hr.ext (ext_alloc w (.cells #[] 54))
    have HR := hid hr'
    clear hr hr' hc
    have HD := hid hdn
    clear hdn
    have he := fun W => Lib.run_eql_slice_nil (P := Try.prog) W 22 54 (some p) n c 0 0 Try.underlying22
    go_enter Try.func49, Try.ntmps49
    go_wp2_with (at_builtin; refine wpList_append_row rfl (.tmp 5) (.tmp 6) _ rfl w.heap.size 54 (.agg #[.int .i64 0, .int .i64 0, .slice none 0 0]) 3 40 Try.underlying22 info_ent rfl (by decide) (.slice (some ⟨w.heap.size, 0, none⟩) 0 0) 0 [] rfl (World.ownsRow_made w #[] 0 (Nat.le_refl _) (Nat.zero_le _) rfl) (some p) n c (rawH H) rfl (fun h => by cases h) HR.out (rawH_mem H) (by unfold maxLen; omega) (by omega) (by simp) ?_; intro v' w1 hown hg)
    go_ret
    refine ⟨v', rfl, ?_, ?_⟩
    · rw [← HD.out]; simpa using hown
    · exact (ext_alloc w _).grown hg (by simp) (by simp [Value.ownBlock])

set_option maxHeartbeats 1000000 in
theorem own_any (F : Nat → Prop) (a : Option Addr) (n c : Nat) (l : List Ent) (w : World) (hl : EsF F w a n c l) :
    Calls Try.prog 46 #[.slice a n c] w fun e w' => ∃ v, e = .returned v ∧ OwnE 54 w.heap.size w' v l ∧ Ext w w' := by
  obtain ⟨H, hH, hrow, hHl⟩ := hl.raw
  have h64 : ∀ k, (h : k < l.length) → In64 l[k].i ∧ In64 l[k].t := by
    intro k hk
    obtain ⟨b, o, -, -, -, _, he⟩ := hl.at_ (k := k) (by have := hl.1; omega)
    exact ⟨he.1, he.2.1⟩
  obtain ⟨rfl, -, ⟨-, hn4⟩, hca, -⟩ := hl
  have hcall := cloneE_any a l.length c H w hH.symm hn4 hca hrow
  clear hrow hca
  have HC := hid hcall
  have HH := hid hH
  have HL := hid hHl
  have H6 := hid h64
  clear hcall hH hHl h64
  go_enter Try.func46, Try.ntmps46
  go_wp2_with fail
  refine Calls.mono HC.out ?_
  rintro e w1 ⟨v, rfl, hown, hb1⟩
  obtain ⟨A, cap, rfl, hA0, hA⟩ := MixAt.start HH.out hn4 hb1 hown HL.out H6.out
  clear hown
  have HB := hid hb1
  have HA := hid hA
  have H0 := hid hA0
  clear hA0 hA hb1 HC HH HL H6
  go_wp2
  go_loopw [9] (fun z wr => ∃ k : Nat, k ≤ l.length ∧ z = .int .i64 k ∧ Ext w wr ∧ ∀ p, A = some p → MixAt (fun b => b < w.heap.size) wr p.block cap 54 l k)
    (fun z _ => l.length - (intOf z).toNat)
  case atStart => exact ⟨0, Nat.zero_le _, rfl, HB.out, fun p hp => (HA.out p hp).2.2.2⟩
  case round =>
    obtain ⟨k, hk, rfl, hb, hm⟩ := hrel
    by_cases hlt : k < l.length
    · cases A with
      | none => rw [(H0.out rfl).1] at hlt; simp at hlt
      | some p =>
        obtain ⟨pb, po, ps⟩ := p
        obtain ⟨h1, h2, hge, -⟩ := HA.out _ rfl
        dsimp only at h1 h2 hge
        subst h1; subst h2
        have hmk := hm _ rfl
        dsimp only at hmk
        obtain ⟨-, -, hc0, -, a', n', c', hc2, hd⟩ := hmk.old k hlt (Nat.le_refl _)
        have hd1 := hd.1
        have HM := hid hmk
        have HD := hid hd
        clear hm hmk hd HA H0
        subst hd1
        have hfz : wr.frozen? ⟨pb, k * 3 + 2, none⟩ = false := by
          obtain ⟨cur, hc, -⟩ := HM.out.row
          simp [World.frozen?, hc]
        have hpl := World.block_lt_of_cell? wr _ hc0
        dsimp only at hpl
        go_wp2_with fail
        refine (cloneB_any _ _ _ _ _ _ HD.out).mono ?_
        rintro e w2 ⟨v2, rfl, hown2, hb2⟩
        obtain ⟨a2, c2, rfl, hy, hs⟩ := own_bytes hown2 HD.out.2.2.1.2
        have hc2' := (hb2.cell (p := ⟨pb, k * 3 + 2, none⟩) hpl).trans hc2
        have hfz' := (hb2.frozen (p := ⟨pb, k * 3 + 2, none⟩) hpl).trans hfz
        have HS := hid (HM.out.step hlt (by intro b hb; omega) hb2 hy hs)
        clear hc2 hfz hown2 hy hs HM hc0 HD
        go_wp2
        go_roundw
        case rel => exact ⟨k + 1, by omega, by go_num, (Ext.trans' hb hb2).setCell hge _, fun p hp => by cases hp; exact HS.out⟩
        case measure => simp [intOf]; omega
    · have hkl : k = l.length := by omega
      go_wp2
      go_ret
      refine ⟨_, rfl, ?_, hb⟩
      cases A with
      | none => exact .inl ⟨by rw [(H0.out rfl).1, (H0.out rfl).2]; rfl, (H0.out rfl).1⟩
      | some p =>
        obtain ⟨h1, h2, hge, -⟩ := HA.out _ rfl
        obtain ⟨pb, po, ps⟩ := p
        dsimp only at h1 h2 hge
        subst h1; subst h2
        have hmk := hm _ rfl
        rw [hkl] at hmk
        exact .inr ⟨pb, cap, rfl, hge, hmk.own⟩
end Go.Proofs.Ytjcmgkdlkadfmaa
