/- The walk of light, with how many entries there are; and short. -/
import Derived.Test.YtjcmgkdlkadfmaaLc1
import Derived.Test.YtjcmgkdlkadfmaaLr4
import Derived.Test.YtjcmgkdlkadfmaaLc2
namespace Go.Proofs.Ytjcmgkdlkadfmaa
open Go.RowKit
set_option linter.unusedVariables false
set_option linter.unusedSimpArgs false
attribute [local go_sem] bmax2 bmin2 bmax_two bmin_two

/-- How many entries there are. -/
def totE (L : List (List Ent)) : Nat := (L.map List.length).sum
theorem totE_take (L : List (List Ent)) (k : Nat) (hk : k < L.length) : totE (L.take (k + 1)) = totE (L.take k) + L[k].length := by
  unfold totE
  rw [List.take_succ_eq_append_getElem hk]
  simp only [List.map_append, List.sum_append, List.map_cons, List.map_nil, List.sum_cons, List.sum_nil, Nat.add_zero]
/-- What is known of light's answer. -/
def LightTot (L : List (List Ent)) (w : World) (e : Ending) (w' : World) : Prop := ∃ bb, e = .returned (.bool bb) ∧ (bb = true → totE L ≤ 200) ∧ w = w'

set_option maxHeartbeats 1000000 in
theorem light_tot (F : Nat → Prop) (a : Option Addr) (n c : Nat) (L : List (List Ent)) (w : World) (hL : LLsF F w a n L) :
    Calls Try.prog 13 #[.slice a n c] w (LightTot L w) := by
  have HL := hid hL
  have hn := hL.2.1
  obtain ⟨hnl, -⟩ := hL
  have HN := hid hnl
  clear hnl
  go_enter Try.func13, Try.ntmps13
  go_wp2
  go_loop [3, 4, 10] (fun x y z => ∃ (k : Nat) (m q : Int), k ≤ n ∧ z = .int .i64 k ∧ x = .int .i64 m ∧ y = .int .i64 q ∧ 0 ≤ m ∧ m ≤ 200 ∧ 0 ≤ q ∧ q ≤ 65536 ∧ Hid (m = (totE (L.take k) : Int)))
    (fun _ _ z => n - (intOf z).toNat)
  case atStart => exact ⟨0, 0, 0, Nat.zero_le _, rfl, rfl, rfl, by omega, by omega, by omega, by omega, rfl⟩
  case round =>
    obtain ⟨k, m, q, hk, rfl, rfl, rfl, hm0, hm1, hq0, hq1, HK⟩ := hrel
    by_cases hlt : k < n
    · obtain ⟨b, o, rfl, hkl, a', n', c', hc, he⟩ := HL.out.at_ hlt
      have HE := hid he
      have hn' := he.2.2.1.2
      have hnl' := he.1
      have HN' := hid hnl'
      clear he hnl'
      go_wp2
      go_loop [4, 7] (fun y z => ∃ (i : Nat) (q : Int), i ≤ n' ∧ i ≤ 201 ∧ z = .int .i64 i ∧ y = .int .i64 q ∧ 0 ≤ q ∧ q ≤ 65536 + i * 65537) (fun _ z => n' - (intOf z).toNat)
      case atStart => exact ⟨0, q, Nat.zero_le _, by omega, rfl, rfl, hq0, by omega⟩
      case round =>
        obtain ⟨i, q, hi, hi2, rfl, rfl, hq0, hq1⟩ := hrel
        by_cases hlt2 : i < n' ∧ i ≤ 200
        · obtain ⟨hl1, hl2⟩ := hlt2
          obtain ⟨b2, o2, rfl, -, -, hil, -, -, -, -, a3, n3, c3, hc3, hd3⟩ := HE.out.at_ hl1
          have hd4 := hd3.2.2.1.2
          clear hd3
          go_wp2
          go_round
          case rel => exact ⟨i + 1, _, by omega, by omega, by go_num, rfl, by omega, by omega⟩
          case measure => simp [intOf]; omega
        · by_cases hil : i < n'
          · have hi3 : decide ((i : Int) ≤ 200) = false := by simp; omega
            by_cases hbig : m + n' ≤ 200 ∧ q ≤ 65536
            · obtain ⟨hb1, hb2⟩ := hbig
              exfalso; omega
            · go_wp2
              all_goals first
                | (go_ret; exact ⟨false, rfl, (fun h => by cases h), rfl⟩)
                | (exfalso; omega)
          · go_wp2
            all_goals first
              | (go_ret; exact ⟨false, rfl, (fun h => by cases h), rfl⟩)
              | (go_round
                 case rel => exact ⟨k + 1, _, _, by omega, by go_num, rfl, rfl, by omega, by omega, by omega, by omega, by
                   have h1 := HK.out
                   have h2 := totE_take L k hkl
                   have h3 := HN'.out
                   show _ = _
                   omega⟩
                 case measure => simp [intOf]; omega)
    · go_wp2
      go_ret
      refine ⟨true, rfl, fun _ => ?_, rfl⟩
      have h1 := HK.out
      have h2 := HN.out
      rw [List.take_of_length_le (by omega)] at h1
      omega

/-- A call that a law is given. -/
structure DoS where
  o : Int
  x : Int
  t : Int
  l : List Ent
def DoF (F : Nat → Prop) (w : World) (b o : Nat) (d : DoS) : Prop :=
  In64 d.o ∧ In64 d.x ∧ In64 d.t ∧ w.cell? ⟨b, o, none⟩ = some (.int .i64 d.o) ∧ w.cell? ⟨b, o + 1, none⟩ = some (.int .i64 d.x) ∧ w.cell? ⟨b, o + 2, none⟩ = some (.int .i64 d.t) ∧
    ∃ a n c, w.cell? ⟨b, o + 3, none⟩ = some (.slice a n c) ∧ EsF F w a n c d.l
def DosF (F : Nat → Prop) (w : World) (a : Option Addr) (n c : Nat) (D : List DoS) : Prop :=
  n = D.length ∧ n ≤ c ∧ n ≤ 140737488351232 ∧ (a = none → c = 0) ∧ ∀ p, a = some p → (0 < n → p.spot = none) ∧ ∀ k, (h : k < D.length) → DoF F w p.block (p.off + k * 4) D[k]
theorem DoF.below {F : Nat → Prop} {w w' : World} {b o : Nat} {d : DoS} (h : DoF F w b o d) (hb : Ext w w') : DoF F w' b o d := by
  obtain ⟨h1, h2, h3, h4, h5, h6, a, n, c, h7, h8⟩ := h
  have hl : b < w.heap.size := World.block_lt_of_cell? w ⟨b, o, none⟩ h4
  exact ⟨h1, h2, h3, (hb.cell (p := ⟨b, o, none⟩) hl).trans h4, (hb.cell (p := ⟨b, o + 1, none⟩) hl).trans h5, (hb.cell (p := ⟨b, o + 2, none⟩) hl).trans h6, a, n, c, (hb.cell (p := ⟨b, o + 3, none⟩) hl).trans h7, h8.below hb⟩
theorem DosF.below {F : Nat → Prop} {w w' : World} {a : Option Addr} {n c : Nat} {D : List DoS} (h : DosF F w a n c D) (hb : Ext w w') : DosF F w' a n c D :=
  ⟨h.1, h.2.1, h.2.2.1, h.2.2.2.1, fun p hp => ⟨(h.2.2.2.2 p hp).1, fun k hk => ((h.2.2.2.2 p hp).2 k hk).below hb⟩⟩
theorem DosF.at_ {F : Nat → Prop} {w : World} {a : Option Addr} {n c : Nat} {D : List DoS} (h : DosF F w a n c D) {k : Nat} (hk : k < n) :
    ∃ b o, a = some ⟨b, o, none⟩ ∧ b < w.heap.size ∧ ∃ hl : k < D.length, DoF F w b (o + k * 4) D[k] := by
  obtain ⟨rfl, h2, h3, h4, h5⟩ := h
  cases a with
  | none => have := h4 rfl; omega
  | some p =>
    obtain ⟨h6, h7⟩ := h5 p rfl
    obtain ⟨b, o, s⟩ := p
    have hs : s = none := h6 (by omega)
    subst hs
    have h8 := h7 k hk
    exact ⟨b, o, rfl, World.block_lt_of_cell? w ⟨b, o + k * 4, none⟩ h8.2.2.2.1, hk, h8⟩

/-- Slices of entries, in a list of values. -/
def SlF (F : Nat → Prop) (w : World) (xs : List Value) (L : List (List Ent)) : Prop :=
  xs.length = L.length ∧ ∀ j (h1 : j < xs.length) (h2 : j < L.length), ∃ a n c, xs[j] = .slice a n c ∧ EsF F w a n c L[j]
theorem SlF.push {F : Nat → Prop} {w : World} {xs : List Value} {L : List (List Ent)} (h : SlF F w xs L) {a : Option Addr} {n c : Nat} {l : List Ent} (hl : EsF F w a n c l) : SlF F w (xs ++ [.slice a n c]) (L ++ [l]) := by
  have hx := h.1
  refine ⟨by simp [h.1], fun j h1 h2 => ?_⟩
  by_cases hj : j < L.length
  · rw [List.getElem_append_left (by rw [h.1]; exact hj), List.getElem_append_left hj]
    exact h.2 j _ hj
  · have he : j = L.length := by simp at h2; omega
    subst he
    refine ⟨a, n, c, ?_, ?_⟩
    · rw [List.getElem_append_right (by omega)]; simp [h.1]
    · rw [List.getElem_append_right (by omega)]; simpa using hl
theorem SlF.lls {F : Nat → Prop} {w w' : World} {xs : List Value} {L : List (List Ent)} (h : SlF F w xs L) (hx : Ext w w') {B : Nat} {e : TypeId} {a : Option Addr} {n c : Nat} (hn : n = L.length) (hm : n ≤ 1000) (hown : w'.ownsRow B e 1 (.slice a n c) n xs) : LLsF F w' a n L := by
  rcases hown.2 with ⟨hv, h0⟩ | ⟨g, cap, cur, hv, hg, hcur, hnc, hmx, hs, ht⟩
  · injection hv with e1 e2 e3
    subst e1
    exact ⟨hn, by omega, fun _ => h0, fun p hp => by cases hp⟩
  · injection hv with e1 e2 e3
    subst e1
    refine ⟨hn, by omega, (fun e => by cases e), fun p hp => ?_⟩
    cases hp
    refine ⟨rfl, fun k hk => ?_⟩
    have hkx : k < xs.length := by rw [h.1]; exact hk
    obtain ⟨a', n', c', hv', he'⟩ := h.2 k hkx hk
    refine ⟨a', n', c', ?_, he'.below hx⟩
    have := hown.cellAt k (by omega)
    rw [List.getElem?_eq_getElem hkx, hv'] at this
    rw [Nat.zero_add]
    exact this

theorem info_sl : (Try.prog.info? 22).map (fun i => (i.zero, i.size, i.bytes)) = some (some (.slice none 0 0), 1, 24) := by kernel_rfl
/-- What is known of short's answer. -/
def ShortPost (D : List DoS) (w : World) (e : Ending) (w' : World) : Prop := ∃ bb, e = .returned (.bool bb) ∧ (bb = true → D.length ≤ 60 ∧ totE (D.map DoS.l) ≤ 200) ∧ Ext w w'

set_option maxRecDepth 100000 in
set_option maxHeartbeats 4000000 in
theorem short_any {F : Nat → Prop} {a : Option Addr} {n c : Nat} {D : List DoS} {w : World} (h : DosF F w a n c D) :
    Calls Try.prog 35 #[.slice a n c] w (ShortPost D w) := by
  have HD := hid h
  have hn := h.2.2.1
  have HN := hid h.1
  clear h
  go_enter Try.func35, Try.ntmps35
  go_wp2
  go_loopw [3, 4] (fun v z wr => ∃ (k : Nat) (xs : List Value) (ao : Option Addr) (co : Nat), k ≤ n ∧ k ≤ 61 ∧ z = .int .i64 k ∧ v = .slice ao k co ∧ Hid (SlF F w xs ((D.map DoS.l).take k)) ∧ Hid (wr.ownsRow w.heap.size 22 1 v k xs) ∧ Ext w wr) (fun _ z _ => n - (intOf z).toNat)
  case atStart => exact ⟨0, [], none, 0, Nat.zero_le _, by omega, rfl, rfl, hid ⟨rfl, fun j h => by cases h⟩, World.ownsRow_nil _ _ _ _, Below.refl _ _⟩
  case round =>
    obtain ⟨k, xs, ao, co, hk, hk61, rfl, rfl, HS, HR, hb⟩ := hrel
    by_cases hlt : k < n ∧ k ≤ 60
    · obtain ⟨hlt, hle⟩ := hlt
      obtain ⟨p, o, rfl, hpl, hkl, -, -, -, -, -, -, a', n', c', q3, he⟩ := HD.out.at_ hlt
      have q3 := (hb.cell (p := ⟨p, o + k * 4 + 3, none⟩) hpl).trans q3
      have hs := hb.size
      have hpr : p < wr.heap.size := by omega
      have hpush := HS.out.push he
      have htk : (D.map DoS.l).take k ++ [D[k].l] = (D.map DoS.l).take (k + 1) := by
        rw [List.take_succ_eq_append_getElem (by simpa using hkl)]; simp
      rw [htk] at hpush
      have HP := hid hpush
      have hA : (wr.alloc (.cells #[.slice a' n' c'] 22)).ownsRow w.heap.size 22 1 (.slice ao k co) k xs := HR.out.alloc _
      have hB := news_row wr [.slice a' n' c'] 1 1 22 rfl
      have hx2 : Ext w (wr.alloc (.cells #[.slice a' n' c'] 22)) := Ext.trans' hb (ext_alloc _ _)
      have HA := hid hA
      have HB := hid hB
      have HX2 := hid hx2
      clear hA hB hx2 hpush htk he
      go_wp2_with (at_builtin; refine wpList_append_row rfl (.tmp 15) (.tmp 21) _ rfl w.heap.size 22 (.slice none 0 0) 1 24 Try.underlying74 info_sl rfl (by decide) (.slice ao k co) k xs rfl HA.out (some ⟨wr.heap.size, 0, none⟩) 1 1 [.slice a' n' c'] rfl (fun e => by cases e) (by have := HB.out; simpa using this) (by intro u hu; simp at hu; rcases hu with rfl; rfl) (by unfold maxLen; omega) (by omega) (by simp; omega) ?_; intro v' w1 hown1 hg; obtain ⟨a4, c4, rfl⟩ := own_slice hown1; have hx4 : Ext w w1 := HX2.out.grown hg (by simp; omega) (fun q hq => by have := HR.out.lt q hq; omega); have HO1 := hid hown1; clear hown1 hg)
      go_roundw
      case rel => exact ⟨k + 1, xs ++ [.slice a' n' c'], a4, c4, by omega, by omega, by go_num, rfl, HP, HO1, hx4⟩
      case measure => simp [intOf]; omega
    · by_cases hn60 : n ≤ 60
      · have hkn : k = n := by omega
        have hsl := HS.out
        rw [List.take_of_length_le (by rw [List.length_map, hkn, HN.out]; exact Nat.le_refl _)] at hsl
        have hll := hsl.lls hb (by rw [List.length_map, hkn]; exact HN.out) (by omega) HR.out
        have HLL := hid hll
        clear hsl hll
        subst hkn
        go_wp2_with fail
        refine (light_tot F _ _ _ (D.map DoS.l) _ (by exact HLL.out)).mono ?_
        rintro e w5 ⟨bb, rfl, hbb, rfl⟩
        go_wp2
        go_ret
        exact ⟨bb, rfl, fun h => ⟨by have := HN.out; omega, hbb h⟩, hb⟩
      · have hk60 : ¬ k ≤ 60 := by omega
        have hnb : decide ((n : Int) ≤ 60) = false := by simp; omega
        go_wp2
        all_goals (go_ret; exact ⟨false, rfl, (fun h => by cases h), hb⟩)
end Go.Proofs.Ytjcmgkdlkadfmaa
