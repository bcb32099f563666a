/- The walks of light and terms. -/
import Derived.Test.YtjcmgkdlkadfmaaLw6
namespace Go.Proofs.Ytjcmgkdlkadfmaa
open Go.RowKit
set_option linter.unusedVariables false
set_option linter.unusedSimpArgs false
attribute [local go_sem] bmax2 bmin2 bmax_two bmin_two

/-- Lists of entries that lie in memory. -/
def LLsF (F : Nat → Prop) (w : World) (a : Option Addr) (n : Nat) (L : List (List Ent)) : Prop :=
  n = L.length ∧ n ≤ 140737488351232 ∧ (a = none → n = 0) ∧ ∀ p, a = some p → p.spot = none ∧ ∀ k, (h : k < L.length) → ∃ a' n' c', w.cell? ⟨p.block, p.off + k, none⟩ = some (.slice a' n' c') ∧ EsF F w a' n' c' L[k]
theorem LLsF.at_ {F : Nat → Prop} {w : World} {a : Option Addr} {n : Nat} {L : List (List Ent)} (h : LLsF F w a n L) {k : Nat} (hk : k < n) :
    ∃ b o, a = some ⟨b, o, none⟩ ∧ ∃ hl : k < L.length, ∃ a' n' c', w.cell? ⟨b, o + k, none⟩ = some (.slice a' n' c') ∧ EsF F w a' n' c' L[k] := by
  obtain ⟨rfl, h2, h3, h4⟩ := h
  cases a with
  | none => have := h3 rfl; omega
  | some p =>
    obtain ⟨h5, h6⟩ := h4 p rfl
    obtain ⟨b, o, s⟩ := p
    subst h5
    exact ⟨b, o, rfl, hk, h6 k hk⟩

/-- What is known of light's answer. -/
def LightPost (L : List (List Ent)) (w : World) (e : Ending) (w' : World) : Prop := ∃ bb, e = .returned (.bool bb) ∧ (bb = true → ∀ l, l ∈ L → l.length ≤ 200) ∧ w = w'

set_option maxHeartbeats 1000000 in
theorem light_any (F : Nat → Prop) (a : Option Addr) (n c : Nat) (L : List (List Ent)) (w : World) (hL : LLsF F w a n L) :
    Calls Try.prog 13 #[.slice a n c] w (LightPost L w) := by
  have HL := hid hL
  have hn := hL.2.1
  obtain ⟨hnl, -⟩ := hL
  have HN := hid hnl
  clear hnl
  go_enter Try.func13, Try.ntmps13
  go_wp2
  go_loop [3, 4, 10] (fun x y z => ∃ (k : Nat) (m q : Int), k ≤ n ∧ z = .int .i64 k ∧ x = .int .i64 m ∧ y = .int .i64 q ∧ 0 ≤ m ∧ m ≤ 200 ∧ 0 ≤ q ∧ q ≤ 65536 ∧ Hid (∀ j, (hj : j < L.length) → j < k → L[j].length ≤ 200))
    (fun _ _ z => n - (intOf z).toNat)
  case atStart => exact ⟨0, 0, 0, Nat.zero_le _, rfl, rfl, rfl, by omega, by omega, by omega, by omega, fun j _ hj => absurd hj (by omega)⟩
  case round =>
    obtain ⟨k, m, q, hk, rfl, rfl, rfl, hm0, hm1, hq0, hq1, HK⟩ := hrel
    by_cases hlt : k < n
    · obtain ⟨b, o, rfl, hkl, a', n', c', hc, he⟩ := HL.out.at_ hlt
      have HE := hid he
      have hn' := he.2.2.1.2
      have hnl' := he.1
      have HN' := hid hnl'
      clear he hnl'
      go_wp2
      go_loop [4, 7] (fun y z => ∃ (i : Nat) (q : Int), i ≤ n' ∧ i ≤ 201 ∧ z = .int .i64 i ∧ y = .int .i64 q ∧ 0 ≤ q ∧ q ≤ 65536 + i * 65537) (fun _ z => n' - (intOf z).toNat)
      case atStart => exact ⟨0, q, Nat.zero_le _, by omega, rfl, rfl, hq0, by omega⟩
      case round =>
        obtain ⟨i, q, hi, hi2, rfl, rfl, hq0, hq1⟩ := hrel
        by_cases hlt2 : i < n' ∧ i ≤ 200
        · obtain ⟨hl1, hl2⟩ := hlt2
          obtain ⟨b2, o2, rfl, -, -, hil, -, -, -, -, a3, n3, c3, hc3, hd3⟩ := HE.out.at_ hl1
          have hd4 := hd3.2.2.1.2
          clear hd3
          go_wp2
          go_round
          case rel => exact ⟨i + 1, _, by omega, by omega, by go_num, rfl, by omega, by omega⟩
          case measure => simp [intOf]; omega
        · by_cases hil : i < n'
          · have hi3 : decide ((i : Int) ≤ 200) = false := by simp; omega
            by_cases hbig : m + n' ≤ 200 ∧ q ≤ 65536
            · obtain ⟨hb1, hb2⟩ := hbig
              exfalso; omega
            · go_wp2
              all_goals first
                | (go_ret; exact ⟨false, rfl, (fun h => by cases h), rfl⟩)
                | (exfalso; omega)
          · go_wp2
            all_goals first
              | (go_ret; exact ⟨false, rfl, (fun h => by cases h), rfl⟩)
              | (go_round
                 case rel => exact ⟨k + 1, _, _, by omega, by go_num, rfl, rfl, by omega, by omega, by omega, by omega, fun j hj hjk => by
                   by_cases e : j = k
                   · subst e
                     have := HN'.out
                     omega
                   · exact HK.out j hj (by omega)⟩
                 case measure => simp [intOf]; omega)
    · go_wp2
      go_ret
      refine ⟨true, rfl, fun _ l hl => ?_, rfl⟩
      obtain ⟨j, hj, rfl⟩ := List.getElem_of_mem hl
      exact HK.out j hj (by have := HN.out; omega)
end Go.Proofs.Ytjcmgkdlkadfmaa
