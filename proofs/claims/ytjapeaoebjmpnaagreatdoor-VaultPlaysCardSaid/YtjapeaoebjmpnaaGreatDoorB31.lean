/- The walk of the reference's Read; numbers have one form. -/
import Derived.Test.YtjapeaoebjmpnaaGreatDoorB30
import Derived.Test.YtjapeaoebjmpnaaGreatDoorB10
namespace Go.Proofs.YtjapeaoebjmpnaaGreatDoor
open Go.RowKit Go.Maps
set_option linter.unusedVariables false
set_option linter.unusedSimpArgs false
attribute [local go_sem] bmax2 bmin2 bmax_two bmin_two

theorem rdB_canon : ∀ (r : By) (pre : By) (acc n k : Nat), pre = hiB 9 acc → (0 < pre.length → 0 < acc) → acc < 128 ^ pre.length → pre.length ≤ 9 → rdB pre.length acc r = (n, k, 0) → (pre ++ r).take k = numB n ∧ k ≤ (pre ++ r).length := by
  intro r
  induction r with
  | nil => intro pre acc n k _ _ _ _ h; simp [rdB] at h
  | cons x r ih =>
    intro pre acc n k hp ha hb hl h
    have hunf : rdB pre.length acc (x :: r) = if pre.length = 0 ∧ x = 128 then (0, 0, 10) else if pre.length = 9 then (0, 0, 5) else
      if x < 128 then (acc * 128 + x.toNat % 128, pre.length + 1, 0) else rdB (pre.length + 1) (acc * 128 + x.toNat % 128) r := rfl
    rw [hunf] at h
    have p9 : (128 : Nat) ^ 9 = 9223372036854775808 := by decide
    have p8 : (128 : Nat) ^ 8 = 72057594037927936 := by decide
    have hx := x.toNat_lt
    split at h
    · cases h
    rename_i h0
    split at h
    · cases h
    rename_i h9
    have hl8 : pre.length ≤ 8 := by omega
    have hacc : acc < 128 ^ 8 := Nat.lt_of_lt_of_le hb (Nat.pow_le_pow_right (by omega) hl8)
    have hf : hiB 9 acc = hiB 8 acc := hiB_fuel 9 8 acc (by omega) hacc
    split at h
    · rename_i hlt
      rw [UInt8.lt_iff_toNat_lt] at hlt
      have hlt : x.toNat < 128 := hlt
      injection h with h1 h2
      injection h2 with h2 h3
      subst h1; subst h2
      refine ⟨?_, by simp⟩
      have e1 : (acc * 128 + x.toNat % 128) / 128 = acc := by omega
      have e2 : (acc * 128 + x.toNat % 128) % 128 = x.toNat := by omega
      unfold numB
      rw [e1, e2, ← hf, ← hp]
      rw [show pre ++ x :: r = (pre ++ [x]) ++ r by simp, List.take_left' (by simp)]
      simp
    rename_i hlt
    have hge : 128 ≤ x.toNat := by
      have : ¬ x.toNat < 128 := fun h => hlt (by rw [UInt8.lt_iff_toNat_lt]; exact h)
      omega
    have hpos : 0 < acc * 128 + x.toNat % 128 := by
      rcases Nat.eq_zero_or_pos pre.length with hz | hz
      · have hx128 : x.toNat ≠ 128 := fun e => h0 ⟨hz, UInt8.toNat_inj.1 e⟩
        omega
      have := ha hz; omega
    have e1 : (acc * 128 + x.toNat % 128) / 128 = acc := by omega
    have e2 : (acc * 128 + x.toNat % 128) % 128 + 128 = x.toNat := by omega
    have hn : pre ++ [x] = hiB 9 (acc * 128 + x.toNat % 128) := by
      rw [hiB_succ 8 _ (by omega), e1, e2, ← hf, ← hp]
      simp
    have hlen : (pre ++ [x]).length = pre.length + 1 := by simp
    have := ih (pre ++ [x]) (acc * 128 + x.toNat % 128) n k hn (fun _ => hpos) (by
      rw [hlen, Nat.pow_succ]
      omega) (by omega) (by rw [hlen]; exact h)
    rw [show pre ++ x :: r = (pre ++ [x]) ++ r by simp]
    exact this
theorem readB_canon {b : By} {n k : Nat} (h : readB b = (n, k, 0)) : b.take k = numB n ∧ k ≤ b.length := by
  have := rdB_canon b [] 0 n k rfl (fun h => by cases h) (by decide) (by decide) h
  simpa using this
theorem rdR_bound : ∀ (r : By) (i acc : Nat), i ≤ 9 → acc < 128 ^ i → (rdB i acc r).1 < 9223372036854775808 ∧ (rdB i acc r).2.1 ≤ i + r.length ∧ ((rdB i acc r).2.2 ≠ 0 → (rdB i acc r).1 = 0 ∧ (rdB i acc r).2.1 = 0) ∧ 0 ≤ (rdB i acc r).2.2 ∧ (rdB i acc r).2.2 ≤ 10 ∧ (rdB i acc r).2.1 ≤ 9 := by
  intro r
  induction r with
  | nil => intro i acc _ _; simp [rdB]
  | cons x r ih =>
    intro i acc hi ha
    have hunf : rdB i acc (x :: r) = if i = 0 ∧ x = 128 then (0, 0, 10) else if i = 9 then (0, 0, 5) else
      if x < 128 then (acc * 128 + x.toNat % 128, i + 1, 0) else rdB (i + 1) (acc * 128 + x.toNat % 128) r := rfl
    have p9 : (128 : Nat) ^ 9 = 9223372036854775808 := by decide
    rw [hunf]
    have hs : acc * 128 + x.toNat % 128 < 128 ^ (i + 1) := by rw [Nat.pow_succ]; omega
    split
    · simp
    split
    · simp
    have h9 : 128 ^ (i + 1) ≤ 128 ^ 9 := Nat.pow_le_pow_right (by omega) (by omega)
    split
    · simp; omega
    obtain ⟨h1, h2, h3, h4, h5, h6⟩ := ih (i + 1) _ (by omega) hs
    exact ⟨h1, by rw [List.length_cons]; omega, h3, h4, h5, h6⟩
theorem readR_bound (b : By) : (readB b).1 < 9223372036854775808 ∧ (readB b).2.1 ≤ b.length ∧ ((readB b).2.2 ≠ 0 → (readB b).1 = 0 ∧ (readB b).2.1 = 0) ∧ 0 ≤ (readB b).2.2 ∧ (readB b).2.2 ≤ 10 ∧ (readB b).2.1 ≤ 9 := by
  have := rdR_bound b 0 0 (by omega) (by decide)
  rw [Nat.zero_add] at this
  exact this

def RdPost (r : Nat × Nat × Int) (w : World) (e : Ending) (w' : World) : Prop := e = .returned (.tuple #[.int .i64 (r.1 : Int), .int .i64 (r.2.1 : Int), .int .i64 r.2.2]) ∧ ∃ q, w' = w.drewN q
set_option maxRecDepth 100000 in
set_option maxHeartbeats 8000000 in
theorem RRead_any {F : Nat → Prop} {w : World} {a : Option Addr} {n c : Nat} {d : By} (h : ByF F w a n c d) :
    Calls Tryz.prog 128 #[.slice a n c] w (RdPost (readB d) w) := by
  have hn := h.1
  have hn24 := h.2.2.1.2
  have HB := hid h
  have HN := hid hn
  obtain ⟨R, hR⟩ : ∃ R, R = readB d := ⟨_, rfl⟩
  rw [← hR]
  have HR := hid hR
  clear h hn hR
  go_enter Tryz.func128, Tryz.ntmps128
  go_wp2
  go_loopw [5, 6] (fun x z wr => ∃ (k acc : Nat), k ≤ n ∧ k ≤ 9 ∧ z = .int .i64 (k : Int) ∧ x = .int .i64 (acc : Int) ∧ Hid (R = rdB k acc (d.drop k)) ∧ acc < 9223372036854775808 ∧ Hid (acc < 128 ^ k) ∧ Hid (∃ q, wr = w.drewN q)) (fun _ z _ => 10 - (intOf z).toNat)
  case atStart => exact ⟨0, 0, Nat.zero_le _, by omega, rfl, rfl, hid (by rw [HR.out]; rfl), by omega, hid (by decide), hid ⟨0, rfl⟩⟩
  obtain ⟨k, acc, hk, hk9, rfl, rfl, HK, hacc, HA, HQ⟩ := hrel
  by_cases hlt : k < n
  · have hdw : ByF F wr a n c d := HB.out.below (by obtain ⟨q, rfl⟩ := HQ.out; exact ext_drewN w q)
    obtain ⟨b, o, rfl, -, hbl, hkl, q⟩ := hdw.at_ hlt
    have hdr : d.drop k = d[k] :: d.drop (k + 1) := List.drop_eq_getElem_cons hkl
    generalize d[k] = x at *
    obtain ⟨xn, hxn⟩ : ∃ xn, xn = x.toNat := ⟨_, rfl⟩
    have hxl : xn < 256 := hxn ▸ x.toNat_lt
    have hstep : R = if k = 0 ∧ x = 128 then (0, 0, 10) else if k = 9 then (0, 0, 5) else
        if x < 128 then (acc * 128 + x.toNat % 128, k + 1, 0) else rdB (k + 1) (acc * 128 + x.toNat % 128) (d.drop (k + 1)) := by
      rw [HK.out, hdr]; rfl
    have hx128 : x = 128 ↔ xn = 128 := by rw [hxn]; exact ⟨fun e => by rw [e]; rfl, fun e => UInt8.toNat_inj.1 e⟩
    have hxlt : x < 128 ↔ xn < 128 := by rw [hxn, UInt8.lt_iff_toNat_lt]; rfl
    rw [← hxn] at hstep
    simp only [hx128, hxlt] at hstep
    rw [← hxn] at q
    have hki : (k : Int) < (n : Int) := by omega
    have hki0 : (0 : Int) ≤ (k : Int) := by omega
    have hm : (xn : Int) % 128 = ((xn % 128 : Nat) : Int) := by omega
    obtain ⟨y, hy⟩ : ∃ y, y = xn % 128 := ⟨_, rfl⟩
    have hyl : y < 128 := by omega
    rw [← hy] at hm hstep
    have HST := hid hstep
    have HKN := hid hkl
    clear hdw hdr hxn hstep hx128 hxlt hy
    by_cases c1 : k = 0 ∧ xn = 128
    · obtain ⟨c1, c2⟩ := c1
      subst c1; subst c2
      rw [Nat.add_zero] at q
      have HRE := hid (show R = (0, 0, 10) by rw [HST.out, if_pos ⟨rfl, rfl⟩])
      clear HK
      go_wp2
      go_ret3
      exact ⟨by rw [HRE.out]; rfl, HQ.out⟩
    by_cases c2 : k = 9
    · subst c2
      have HRE := hid (show R = (0, 0, 5) by rw [HST.out, if_neg c1, if_pos rfl])
      clear c1 HK
      go_wp2
      go_ret3
      exact ⟨by rw [HRE.out]; rfl, HQ.out⟩
    have hk8 : k ≤ 8 := by omega
    have p8 : (128 : Nat) ^ 8 = 72057594037927936 := by decide
    have hacc8 : acc < 72057594037927936 := by
      have h1 : 128 ^ k ≤ 128 ^ 8 := Nat.pow_le_pow_right (by omega) hk8
      have := HA.out; omega
    obtain ⟨m2, hm2⟩ : ∃ m2, m2 = acc * 128 + y := ⟨_, rfl⟩
    have hm3 : 128 * (acc : Int) + (y : Int) = (m2 : Int) := by omega
    have hm63 : m2 < 9223372036854775808 := by omega
    have hA2 : m2 < 128 ^ (k + 1) := by
      rw [Nat.pow_succ]
      have := HA.out; omega
    have HA2 := hid hA2
    have hst2 := HST.out
    rw [if_neg c1, if_neg c2, ← hm2] at hst2
    have hki9 : ((k : Int) == 9) = false := by simp; omega
    have HC1 := hid c1
    clear c1 c2 p8 hA2 hm2 HK HST
    by_cases c3 : xn < 128
    · rw [if_pos c3] at hst2
      have HRE := hid hst2
      clear hst2
      by_cases c0 : k = 0
      · subst c0
        rw [Nat.add_zero] at q
        have hne : ((xn : Int) == 128) = false := by simp; omega
        go_wp2
        go_ret3
        exact ⟨by rw [HRE.out]; simp [hm3], HQ.out⟩
      have hk0 : ((k : Int) == 0) = false := by simp; omega
      clear c0
      go_wp2
      go_ret3
      exact ⟨by rw [HRE.out]; simp [hm3], HQ.out⟩
    rw [if_neg c3] at hst2
    have HRE := hid hst2
    clear hst2
    by_cases c0 : k = 0
    · subst c0
      rw [Nat.add_zero] at q
      have hne : ((xn : Int) == 128) = false := by
        have := HC1.out
        simp at this ⊢
        omega
      go_wp2
      go_roundw
      case rel => exact ⟨0 + 1, m2, by omega, by omega, by go_num, by go_num, HRE.out, hm63, HA2.out, HQ.out⟩
      case measure => simp [intOf]
    have hk0 : ((k : Int) == 0) = false := by simp; omega
    clear c0
    go_wp2
    go_roundw
    case rel => exact ⟨k + 1, m2, by omega, by omega, by go_num, by go_num, HRE.out, hm63, HA2.out, HQ.out⟩
    case measure => simp [intOf]; omega
  have hkn : k = n := by omega
  have HRE := hid (show R = (0, 0, 2) by rw [HK.out, hkn, HN.out, List.drop_length]; rfl)
  subst hkn
  clear HK
  go_wp2
  go_ret3
  exact ⟨by rw [HRE.out]; rfl, HQ.out⟩
end Go.Proofs.YtjapeaoebjmpnaaGreatDoor

/- The walk of the reference's Pick. -/
namespace Go.Proofs.YtjapeaoebjmpnaaGreatDoor
open Go.RowKit Go.Maps
set_option linter.unusedVariables false
set_option linter.unusedSimpArgs false
attribute [local go_sem] bmax2 bmin2 bmax_two bmin_two

/-- A record's bytes are those of its payload. -/
theorem pick_rec {r : By} {n k : Nat} (hr : readB r = (n, k, 0)) (hl : 1 + k + n + 4 ≤ ((93 : UInt8) :: r).length) :
    (((93 : UInt8) :: r).drop (1 + k)).take n = ((((93 : UInt8) :: r).take (1 + k + n)).drop (1 + k)) ∧
    (recB ((((93 : UInt8) :: r).take (1 + k + n)).drop (1 + k)) = ((93 : UInt8) :: r).take (n + k + 5) ↔ (((93 : UInt8) :: r).drop (1 + k + n)).take 4 = fourB (crc (((93 : UInt8) :: r).take (1 + k + n)))) := by
  have hc := (readB_canon hr).1
  generalize hb : ((93 : UInt8) :: r) = b at *
  have e1 : (b.take (1 + k + n)).drop (1 + k) = (b.drop (1 + k)).take n := by
    rw [List.drop_take]
    congr 1
    omega
  have e2 : b.take (1 + k) = 93 :: numB n := by
    rw [← hb, Nat.add_comm 1 k, List.take_succ_cons, hc]
  have e3 : ((b.take (1 + k + n)).drop (1 + k)).length = n := by
    rw [e1, List.length_take, List.length_drop]; omega
  have e4 : headB ((b.take (1 + k + n)).drop (1 + k)) ++ (b.take (1 + k + n)).drop (1 + k) = b.take (1 + k + n) := by
    unfold headB
    rw [e3, ← e2]
    have : b.take (1 + k) = (b.take (1 + k + n)).take (1 + k) := by rw [List.take_take]; congr 1; omega
    rw [this, List.take_append_drop]
  have e5 : b.take (n + k + 5) = b.take (1 + k + n) ++ (b.drop (1 + k + n)).take 4 := by
    rw [show n + k + 5 = (1 + k + n) + 4 by omega, List.take_add]
  refine ⟨e1.symm, ?_⟩
  unfold recB
  rw [e4, e5]
  constructor
  · intro h
    exact (List.append_cancel_left h).symm
  intro h; rw [h]
set_option maxRecDepth 100000 in
set_option maxHeartbeats 8000000 in
theorem RPick_any {F : Nat → Prop} {w : World} {a : Option Addr} {n c : Nat} {b : By} (hb : ByF F w a n c b) (hn : n ≤ 1000000000) :
    Calls Tryz.prog 127 #[.slice a n c] w (PickPost (pickB b) w) := by
  have hnb := hb.1
  cases b with
  | nil =>
    have hn0 : n = 0 := hnb
    subst hn0
    clear hb hnb
    go_enter Tryz.func127, Tryz.ntmps127
    go_wp2
    go_ret3
    exact pick_none (Below.refl _ _) 2
  | cons x r =>
    have hpk : pickB (x :: r) = if x ≠ 93 then ([], 0, 10) else
        if (readB r).2.2 ≠ 0 then ([], 0, (readB r).2.2) else
        if 65536 < (readB r).1 then ([], 0, 4) else
        if (x :: r).length < 1 + (readB r).2.1 + (readB r).1 + 4 then ([], 0, 2) else
        if ((x :: r).drop (1 + (readB r).2.1 + (readB r).1)).take 4 ≠ fourB (crc ((x :: r).take (1 + (readB r).2.1 + (readB r).1))) then ([], 0, 11) else
        (((x :: r).drop (1 + (readB r).2.1)).take (readB r).1, 1 + (readB r).2.1 + (readB r).1 + 4, 0) := rfl
    rw [List.length_cons] at hnb
    obtain ⟨b0, o0, rfl, -, hbl, hkl, q⟩ := hb.at_ (k := 0) (by omega)
    rw [Nat.add_zero] at q
    simp only [List.getElem_cons_zero] at q
    obtain ⟨xn, hxn⟩ : ∃ xn, xn = x.toNat := ⟨_, rfl⟩
    have hxl : xn < 256 := hxn ▸ x.toNat_lt
    rw [← hxn] at q
    have hn1 : (0 : Int) < (n : Int) := by omega
    have hnz : ((n : Int) == 0) = false := by simp; omega
    by_cases hx : x = 93
    · have hxv : xn = 93 := by rw [hxn, hx]; rfl
      subst hxv
      rw [if_neg (by rw [hx]; simp)] at hpk
      obtain ⟨a1, m1, k1, s1, s2, hb1⟩ := cut_l hb 1 (by omega) (by omega)
      have hbd := readR_bound r
      have hrd := RRead_any hb1
      rw [show (x :: r).drop (1 : Int).toNat = r from rfl] at hrd
      obtain ⟨⟨N, K, E⟩, hRe⟩ : ∃ R, R = readB r := ⟨_, rfl⟩
      rw [← hRe] at hbd hrd hpk
      dsimp only at hbd hpk
      obtain ⟨hb1, hb2, hb3, hb4, hb5, hb6⟩ := hbd
      have HRD := hid hrd
      have HPK := hid hpk
      have HB := hid hb
      have HRE := hid hRe
      have HX := hid hx
      have hnr : n = r.length + 1 := hnb
      have HNR := hid hnr
      have hKn : K + 1 ≤ n := by omega
      clear hpk hb hrd hRe hx hxn hxl hkl hnb hb3 hnr hb2
      go_enter Tryz.func127, Tryz.ntmps127
      go_wp2_with fail
      refine Calls.mono HRD.out ?_
      rintro e w1 ⟨rfl, nq, rfl⟩
      have HX1 := hid (ext_drewN w nq)
      by_cases hE : E = 0
      · subst hE
        rw [if_neg (by simp)] at HPK
        by_cases hN : 65536 < N
        · rw [if_pos hN] at HPK
          have hNi : (65536 : Int) < (N : Int) := by omega
          go_wp2
          go_ret3
          rw [HPK.out]
          exact pick_none HX1.out 4
        rw [if_neg hN] at HPK
        have hNi : (N : Int) ≤ 65536 := by omega
        by_cases hlen : (x :: r).length < 1 + K + N + 4
        · rw [if_pos hlen] at HPK
          rw [List.length_cons, ← HNR.out] at hlen
          have hlt : (n : Int) - 1 - (K : Int) - 4 < (N : Int) := by omega
          clear hlen
          go_wp2
          go_ret3
          rw [HPK.out]
          exact pick_none HX1.out 2
        rw [if_neg hlen] at HPK
        have hlc : (x :: r).length = r.length + 1 := List.length_cons ..
        rw [hlc, ← HNR.out] at hlen
        have hlt : ¬ (n : Int) - 1 - (K : Int) - 4 < (N : Int) := by omega
        obtain ⟨pr1, pr2⟩ := pick_rec (r := r) (n := N) (k := K) HRE.out.symm (by rw [List.length_cons, ← HNR.out]; omega)
        obtain ⟨a2, m2, k2, u1, u2, hb2'⟩ := cut_lh HB.out ((1 + K : Nat) : Int) ((1 + K + N : Nat) : Int) (by omega) (by omega) (by omega)
        rw [Int.toNat_natCast, Int.toNat_natCast, HX.out] at hb2'
        obtain ⟨p, hp⟩ : ∃ p, p = (((93 : UInt8) :: r).take (1 + K + N)).drop (1 + K) := ⟨_, rfl⟩
        rw [← hp] at hb2' pr1 pr2
        have hpl : p.length = N := by rw [hp, List.length_drop, List.length_take, List.length_cons, ← HNR.out]; omega
        have hm2 : m2 = N := by rw [hb2'.1]; exact hpl
        subst hm2
        rw [HX.out, pr1] at HPK
        have e1 : 1 + (K : Int) = ((1 + K : Nat) : Int) := by omega
        have e2 : ((1 + K : Nat) : Int) + (m2 : Int) = ((1 + K + m2 : Nat) : Int) := by omega
        obtain ⟨s1', hs1⟩ : ∃ s1', s1' = 1 + K := ⟨_, rfl⟩
        obtain ⟨s2', hs2⟩ : ∃ s2', s2' = 1 + K + m2 := ⟨_, rfl⟩
        rw [← hs2] at u1 u2 e2
        rw [← hs1] at u1 u2 e1 e2
        have hw1 : s1' ≤ 1000000001 := by omega
        have hw2 : s2' ≤ 1000100001 := by omega
        have hw3 : IntKind.i64.wrap (s1' : Int) = (s1' : Int) := IntWalk.i64_in _ ⟨by omega, by omega⟩
        have hw4 : IntKind.i64.wrap (s2' : Int) = (s2' : Int) := IntWalk.i64_in _ ⟨by omega, by omega⟩
        have HS1 := hid hs1
        have HS2 := hid hs2
        clear hs1 hs2
        have HP2 := hid hb2'
        have HPR := hid pr2
        have HPL := hid hpl
        clear hb2' pr1 pr2 hp hpl hlen hlc hN
        have HO := hid (ownB_made (w.drewN nq) w.heap.size HX1.out.size)
        have HBB := hid (HP2.out.below (HX1.out.trans' (ext_alloc (w.drewN nq) (.cells #[] 5))))
        have HX2 := hid (HX1.out.trans' (ext_alloc (w.drewN nq) (.cells #[] 5)))
        go_wp2_with (at_builtin; refine wpList_appB rfl (.tmp 38) (.tmp 46) rfl w.heap.size _ 0 [] rfl HO.out a2 m2 k2 p rfl HBB.out (by omega) HX2.out.size ?_; intro g3 c3 w3 hown3 hx3; have HO3 := hid (OwnB.zero hown3); have HX3 := hid (show Ext w w3 from HX2.out.trans hx3); clear hown3 hx3)
        obtain ⟨want, hwant⟩ : ∃ want, want = recB p := ⟨_, rfl⟩
        have hwl : want.length ≤ 70000 := by
          rw [hwant, recB_len]
          have h1 := (numB_len p.length).2
          have h2 := HPL.out
          omega
        have hrec := RRecord_any (HO3.out.any (by omega)) (by omega)
        have hpr := HPR.out
        rw [← hwant] at hrec hpr
        have HREC := hid hrec
        have HPR2 := hid hpr
        obtain ⟨s3, hs3⟩ : ∃ s3, s3 = m2 + K := ⟨_, rfl⟩
        obtain ⟨s4, hs4⟩ : ∃ s4, s4 = m2 + K + 5 := ⟨_, rfl⟩
        have hs4n : s4 ≤ n := by omega
        have e3 : (m2 : Int) + (K : Int) = (s3 : Int) := by omega
        have e4 : (s3 : Int) + 5 = (s4 : Int) := by omega
        have hw5 : IntKind.i64.wrap (s3 : Int) = (s3 : Int) := IntWalk.i64_in _ ⟨by omega, by omega⟩
        have hw6 : IntKind.i64.wrap (s4 : Int) = (s4 : Int) := IntWalk.i64_in _ ⟨by omega, by omega⟩
        obtain ⟨a5, m5, k5, u3, u4, hb5'⟩ := cut_h HB.out (s4 : Int) (by omega) (by omega)
        rw [Int.toNat_natCast, HX.out] at hb5'
        obtain ⟨tk, htk⟩ : ∃ tk, tk = ((93 : UInt8) :: r).take s4 := ⟨_, rfl⟩
        rw [← htk] at hb5'
        have HB5 := hid hb5'
        have HTK := hid (show tk = ((93 : UInt8) :: r).take (m2 + K + 5) by rw [htk, hs4])
        have HS4 := hid hs4
        clear hwant hrec hpr hs3 hs4 hb5' htk u1 u2 e1 e2 hw1 hw2 hw3 hw4
        refine Calls.mono HREC.out ?_
        rintro e w4 ⟨g4, c4, rfl, hown4, hx4⟩
        have HV4 := hid (hown4.any (by omega))
        have HX4 := hid (HX3.out.trans' hx4)
        have HX34 := hid hx4
        obtain ⟨wl, hwl2⟩ : ∃ wl, wl = want.length := ⟨_, rfl⟩
        rw [← hwl2] at HV4 ⊢
        clear hown4 hx4 hwl2
        go_wp2
        have y0 : Ext w4 w4.drew := ext_drew w4
        refine wp_region_held_drew (S := fun W => Ext w4 W) (by kernel_rfl) y0 (fun hH => ?_)
        clear hH
        refine hr_ 0 (.slice (some ⟨g4, 0, none⟩) wl c4) rfl y0 (fun W hW => ?_) ?_
        · (clear hW; go_simp)
        try simp only [Act.put, sA_, s0_, sS_]
        refine hr_ 1 (.string ⟨want.toArray⟩) rfl y0 (fun W hW => ?_) ?_
        · exact exec_convert rfl (conv_str (HV4.out.below hW))
        try simp only [Act.put, sA_, s0_, sS_]
        refine hr_ 2 (.slice (some ⟨b0, o0, none⟩) n c) rfl y0 (fun W hW => ?_) ?_
        · (clear hW; go_simp)
        try simp only [Act.put, sA_, s0_, sS_]
        refine hr_ 3 (.int .i64 (m2 : Int)) rfl y0 (fun W hW => ?_) ?_
        · (clear hW; go_simp)
        try simp only [Act.put, sA_, s0_, sS_]
        refine hr_ 4 (.int .i64 (K : Int)) rfl y0 (fun W hW => ?_) ?_
        · (clear hW; go_simp)
        try simp only [Act.put, sA_, s0_, sS_]
        refine hr_ 5 (.int .i64 (s3 : Int)) rfl y0 (fun W hW => ?_) ?_
        · (clear hW; go_simp)
        try simp only [Act.put, sA_, s0_, sS_]
        refine hr_ 6 (.int .i64 (s4 : Int)) rfl y0 (fun W hW => ?_) ?_
        · (clear hW; go_simp)
        try simp only [Act.put, sA_, s0_, sS_]
        refine hr_ 7 (.slice a5 m5 k5) rfl y0 (fun W hW => ?_) ?_
        · (clear hW; go_simp)
        try simp only [Act.put, sA_, s0_, sS_]
        refine hr_ 8 (.string ⟨tk.toArray⟩) rfl y0 (fun W hW => ?_) ?_
        · exact exec_convert rfl (conv_str (HB5.out.below (HX4.out.trans' hW)))
        try simp only [Act.put, sA_, s0_, sS_]
        by_cases hwt : want = tk
        · have HSM := hid (HPR2.out.1 (by rw [← HTK.out]; exact hwt))
          subst hwt
          refine hr_ 9 (.bool false) rfl y0 (fun W hW => ?_) ?_
          · (clear hW; go_simp)
          try simp only [Act.put, sA_, s0_, sS_]
          refine wpAnyH_done (by kernel_rfl) ?_ _
          go_wp2
          go_ret3
          rw [HX.out, HPK.out, if_neg (fun h => h HSM.out)]
          refine ⟨some ⟨g3, 0, none⟩, m2, c3, ?_, (HO3.out.by_ (by omega)).keep fun q hq hl => ⟨⟨hq.1, ?_⟩, ?_⟩, HX4.out.trans' y0⟩
          · show _ = Ending.returned (.tuple #[_, .int .i64 ((1 + K + m2 + 4 : Nat) : Int), _])
            rw [show 1 + K + m2 + 4 = s4 by have := HS4.out; omega]
            rfl
          · have := hq.2; have := HX34.out.size; have := y0.size; omega
          exact (y0.block q (by have := HX34.out.size; omega)).trans (HX34.out.block q hl)
        have HSM := hid (show ¬ (((93 : UInt8) :: r).drop (1 + K + m2)).take 4 = fourB (crc (((93 : UInt8) :: r).take (1 + K + m2))) from fun h => hwt (by rw [HTK.out]; exact HPR2.out.2 h))
        refine hr_ 9 (.bool true) rfl y0 (fun W hW => ?_) ?_
        · (clear hW; go_simp)
        try simp only [Act.put, sA_, s0_, sS_]
        refine wpAnyH_done (by kernel_rfl) ?_ _
        go_wp2
        go_ret3
        rw [HX.out, HPK.out, if_pos HSM.out]
        exact pick_none (HX4.out.trans' y0) 11
      have hEn : (E != 0) = true := by simpa using hE
      rw [if_pos hE] at HPK
      clear hE
      go_wp2
      go_ret3
      rw [HPK.out]
      exact pick_none HX1.out _
    rw [if_pos hx] at hpk
    have hxne : ((xn : Int) != 93) = true := by
      have : xn ≠ 93 := fun e => hx (UInt8.toNat_inj.1 (hxn.symm.trans e))
      simp; omega
    rw [hpk]
    clear hb hpk hx hxn hnb hkl
    go_enter Tryz.func127, Tryz.ntmps127
    go_wp2
    go_ret3
    exact pick_none (Below.refl _ _) 10
end Go.Proofs.YtjapeaoebjmpnaaGreatDoor

/- The walk of the reference's Rows. -/
namespace Go.Proofs.YtjapeaoebjmpnaaGreatDoor
open Go.RowKit Go.Maps
set_option linter.unusedVariables false
set_option linter.unusedSimpArgs false
attribute [local go_sem] bmax2 bmin2 bmax_two bmin_two

set_option maxRecDepth 100000 in
set_option maxHeartbeats 2000000 in
theorem RRows_any {F : Nat → Prop} {w : World} {a : Option Addr} {n c : Nat} {b : By} (hb : ByF F w a n c b) (hn : n ≤ 1000000000) :
    Calls Tryz.prog 103 #[.slice a n c] w (RowsPost (rowsB b) w) := by
  have HNB := hid (show n = b.length from hb.1)
  have HB := hid hb
  obtain ⟨R, hR⟩ : ∃ R, R = rowsB b := ⟨_, rfl⟩
  rw [← hR]
  have HR := hid hR
  clear hb hR
  go_enter Tryz.func103, Tryz.ntmps103
  go_wp2
  go_loopw [4, 5, 6, 7, 8] (fun v z _ _ _ wr => ∃ (at_ : Nat) (L : List By) (va : Option Addr) (vn vc : Nat), v = .slice va vn vc ∧ at_ ≤ n ∧ z = .int .i64 (at_ : Int) ∧ Hid (OwnR w.heap.size wr (.slice va vn vc) L) ∧ L.length ≤ at_ ∧ Hid (R = (L ++ (rowsB (b.drop at_)).1, at_ + (rowsB (b.drop at_)).2)) ∧ Ext w wr) (fun _ z _ _ _ _ => n - (intOf z).toNat)
  case atStart => exact ⟨0, [], none, 0, 0, rfl, Nat.zero_le _, rfl, OwnR.nil_ _ _, Nat.zero_le _, (show R = _ by rw [HR.out]; simp), Below.refl _ _⟩
  obtain ⟨at_, L, va, vn, vc, rfl, hat, rfl, HO, hL, HQ, hx⟩ := hrel
  obtain ⟨a2, m2, k2, u1, u2, hb2⟩ := cut_l (HB.out.below hx) (at_ : Int) (by omega) (by omega)
  rw [Int.toNat_natCast] at hb2
  obtain ⟨rb, hrb⟩ : ∃ rb, rb = b.drop at_ := ⟨_, rfl⟩
  rw [← hrb] at hb2 HQ
  have hm2 : m2 = n - at_ := by rw [hb2.1, hrb, List.length_drop, ← HNB.out]
  have hrl : rb.length = n - at_ := by rw [← hm2]; exact hb2.1.symm
  have hP := RPick_any hb2 (by omega)
  obtain ⟨pk, hpk⟩ : ∃ pk, pk = pickB rb := ⟨_, rfl⟩
  have heq := rowsB_eq rb
  rw [← hpk] at hP heq
  have HP := hid hP
  have HE := hid heq
  have hok := fun h : (pickB rb).2.2 = 0 => pickB_ok h
  rw [← hpk, hrl] at hok
  have HOK := hid hok
  have HRB := hid hrb
  clear hP heq hok hb2 hrl hpk hrb hm2
  obtain ⟨pd, pn, pz⟩ := pk
  by_cases hz : pz = 0
  · subst hz
    obtain ⟨o1, o2⟩ := HOK.out rfl
    have heq := HE.out
    rw [if_neg (by simp)] at heq
    have hq := HQ.out
    rw [heq] at hq
    have HQ2 := hid hq
    dsimp only at o1 o2
    clear heq hq HE HOK HQ
    obtain ⟨p2, hp2⟩ : ∃ p2, p2 = at_ + pn := ⟨_, rfl⟩
    have hsum : (at_ : Int) + (pn : Int) = (p2 : Int) := by omega
    have hp2n : p2 ≤ n := by omega
    have hsw : IntKind.i64.wrap (p2 : Int) = (p2 : Int) := by rw [IntKind.wrap_i64]; omega
    have HP2 := hid hp2
    clear hp2
    have hFresh := HO.out.form
    have HFR := hid hFresh
    clear hFresh
    go_wp2_with fail
    refine Calls.mono HP.out ?_
    rintro e w2 ⟨a3, n3, c3, rfl, hb3, hx2⟩
    have hz2 := hx2.size
    have hne : ByF (fun q => (Value.slice va vn vc).ownBlock ≠ some q) w2 a3 n3 c3 pd := hb3.more fun q hq => by
      rcases HFR.out with ⟨e1, -⟩ | ⟨g1, c1, e1, -, e3⟩
      · rw [e1]; exact fun e => by cases e
      rw [e1]; intro e; injection e with e; have e := (show g1 = q from e); omega
    have HNE := hid (hne.below (ext_alloc w2 (.cells #[.slice a3 n3 c3] 23)))
    have HO2 := hid ((HO.out.ext hx2).ext (ext_alloc w2 (.cells #[.slice a3 n3 c3] 23)))
    have HX2 := hid (hx.trans' (hx2.trans' (ext_alloc w2 (.cells #[.slice a3 n3 c3] 23))))
    have hcc : (w2.alloc (.cells #[.slice a3 n3 c3] 23)).cell? ⟨w2.heap.size, 0, none⟩ = some (.slice a3 n3 c3) := by unfold World.cell?; rw [heap_alloc_new]; rfl
    have hwz : w.heap.size ≤ (w2.alloc (.cells #[.slice a3 n3 c3] 23)).heap.size := HX2.out.size
    have HCC := hid hcc
    have HWZ := hid hwz
    clear hb3 hne hx2 hcc hwz hz2
    dsimp only
    go_wp2_with (at_builtin; refine wpList_appR rfl (.tmp 21) (.tmp 23) rfl w.heap.size _ L rfl HO2.out w2.heap.size rfl a3 n3 c3 pd HCC.out HNE.out (by omega) HWZ.out ?_; intro v5 w5 hown5 hx5; obtain ⟨va5, vn5, vc5, rfl⟩ := hown5.slice_; have HO5 := hid hown5; have HX5 := hid hx5; clear hown5 hx5)
    go_wp2
    refine ⟨⟨p2, L ++ [pd], va5, vn5, vc5, rfl, by omega, by go_num, HO5.out, by have := HP2.out; simp; omega, ?_, HX2.out.trans HX5.out⟩, ?_⟩
    · refine hid ?_
      rw [HQ2.out, HRB.out, List.drop_drop, HP2.out]
      simp; omega
    have := HP2.out
    simp [intOf]; omega
  have heq := HE.out
  rw [if_pos hz] at heq
  have hq := HQ.out
  rw [heq] at hq
  have HQ2 := hid hq
  have hzb : (pz != 0) = true := by simpa using hz
  clear heq hq HE HOK HQ hz
  go_wp2_with fail
  refine Calls.mono HP.out ?_
  rintro e w2 ⟨a3, n3, c3, rfl, -, hx2⟩
  have HX2 := hid (hx.trans' hx2)
  have HO2 := hid (HO.out.ext hx2)
  clear hx2
  go_wp2
  go_ret2
  rw [HQ2.out]
  refine ⟨va, vn, vc, by simp, ?_, HX2.out⟩
  simpa using HO2.out
end Go.Proofs.YtjapeaoebjmpnaaGreatDoor

/- The walk of the reference's Scan.Number. -/
namespace Go.Proofs.YtjapeaoebjmpnaaGreatDoor
open Go.RowKit Go.Maps
set_option linter.unusedVariables false
set_option linter.unusedSimpArgs false
attribute [local go_sem] bmax2 bmin2 bmax_two bmin_two

/-- The reference's scan in memory. -/
def RSc (G : Nat → Prop) (w : World) (g : Nat) (s : Sc) : Prop :=
  ∃ a n c, w.heap[g]? = some (.cells #[.slice a n c, .int .i64 (s.at_ : Int), .int .i64 s.err] 150 (0, 0)) ∧ ByF G w a n c s.b ∧ s.at_ ≤ n ∧ ¬ G g
theorem rcells3 {W : World} {b : Nat} {x0 x1 x2 : Value} {t : TypeId} (h : W.heap[b]? = some (.cells #[x0, x1, x2] t (0, 0))) :
    (W.cell? ⟨b, 0, none⟩ = some x0 ∧ W.cell? ⟨b, 1, none⟩ = some x1 ∧ W.cell? ⟨b, 2, none⟩ = some x2) ∧ (W.frozen? ⟨b, 0, none⟩ = false ∧ W.frozen? ⟨b, 1, none⟩ = false ∧ W.frozen? ⟨b, 2, none⟩ = false) ∧ b < W.heap.size :=
  ⟨⟨by simp [World.cell?, h], by simp [World.cell?, h], by simp [World.cell?, h]⟩, ⟨by simp [World.frozen?, h], by simp [World.frozen?, h], by simp [World.frozen?, h]⟩, (Array.getElem?_eq_some_iff.1 h).1⟩
theorem Sc.num_all {s : Sc} (h : s.err = 0) : s.num = ((readB (s.b.drop s.at_)).1, ⟨s.b, s.at_ + (readB (s.b.drop s.at_)).2.1, (readB (s.b.drop s.at_)).2.2⟩) := by
  obtain ⟨-, -, h3, -⟩ := readR_bound (s.b.drop s.at_)
  unfold Sc.num Sc.numV
  rw [if_neg (by rw [h]; simp)]
  by_cases he : (readB (s.b.drop s.at_)).2.2 = 0
  · rw [if_neg (by rw [he]; simp), he, ← h]
  rw [if_pos he, (h3 he).1, (h3 he).2]
  rfl
def RScPost (G : Nat → Prop) (g : Nat) (r : Nat × Sc) (w : World) (e : Ending) (w' : World) : Prop := e = .returned (.int .i64 (r.1 : Int)) ∧ RSc G w' g r.2 ∧ Frm (fun q => q = g) w w'
set_option maxRecDepth 100000 in
set_option maxHeartbeats 8000000 in
theorem RScan_any {G : Nat → Prop} {w : World} {g : Nat} {s : Sc} (h : RSc G w g s) (hb : s.b.length ≤ 1000000000) :
    Calls Tryz.prog 104 #[.pointer (some ⟨g, 0, none⟩)] w (RScPost G g s.num w) := by
  obtain ⟨a, n, c, h1, h2, h3, h4⟩ := id h
  obtain ⟨⟨c0, c1, c2⟩, -, hgl⟩ := rcells3 h1
  by_cases he : s.err = 0
  · obtain ⟨sb, at_, er⟩ := s
    dsimp only at he hb h1 h2 h3 c1 c2
    subst he
    have hn := h2.1
    obtain ⟨a1, m1, k1, u1, u2, hb1⟩ := cut_l h2 (at_ : Int) (by omega) (by omega)
    rw [Int.toNat_natCast] at hb1
    have hbd := readR_bound (sb.drop at_)
    have hnum := Sc.num_all (s := ⟨sb, at_, 0⟩) rfl
    dsimp only at hnum
    obtain ⟨⟨N, K, E⟩, hR⟩ : ∃ R, R = readB (sb.drop at_) := ⟨_, rfl⟩
    rw [← hR] at hbd hnum
    dsimp only at hbd hnum
    rw [hnum]
    obtain ⟨b1, b2, -, b4, b5, b6⟩ := hbd
    rw [List.length_drop] at b2
    have hatk : at_ + K ≤ n := by omega
    have hn9 : n ≤ 1000000000 := by omega
    obtain ⟨p2, hp2⟩ : ∃ p2, p2 = at_ + K := ⟨_, rfl⟩
    have e1 : (at_ : Int) + (K : Int) = (p2 : Int) := by omega
    have e2 : IntKind.i64.wrap (p2 : Int) = (p2 : Int) := IntWalk.i64_in _ ⟨by omega, by omega⟩
    rw [← hp2]
    have HP2 := hid (show p2 ≤ n by omega)
    have HB1 := hid hb1
    have HB := hid h2
    have HR := hid hR
    have HG := hid h4
    have HH := hid h1
    have HCL := hid (fun W (hW : Ext w W) => (rcells3 ((hW.block g hgl).trans h1)).1)
    clear hR hb1 h h1 h2 h4 hnum hp2 hn b2 hatk
    go_enter Tryz.func104, Tryz.ntmps104
    go_wp2
    have y0 : Ext w w.drew := ext_drew w
    refine wp_region_held_drew (S := fun W => Ext w W) (by kernel_rfl) y0 (fun hH => ?_)
    clear hH c0 c1 c2
    refine hr_ 0 (.pointer (some ⟨g, 0, none⟩)) rfl y0 (fun W hW => ?_) ?_
    · (clear hW; go_simp)
    try simp only [Act.put, sA_, s0_, sS_]
    refine hr_ 1 (.pointer (some ⟨g, 0, none⟩)) rfl y0 (fun W hW => ?_) ?_
    · (clear hW; go_simp)
    try simp only [Act.put, sA_, s0_, sS_]
    refine hr_ 2 (.pointer (some ⟨g, 0, none⟩)) rfl y0 (fun W hW => ?_) ?_
    · (clear hW; go_simp)
    try simp only [Act.put, sA_, s0_, sS_]
    refine hr_ 3 (.slice a n c) rfl y0 (fun W hW => ?_) ?_
    · (obtain ⟨c0, c1, c2⟩ := HCL.out W hW; clear hW; go_simp)
    try simp only [Act.put, sA_, s0_, sS_]
    refine hr_ 4 (.pointer (some ⟨g, 0, none⟩)) rfl y0 (fun W hW => ?_) ?_
    · (clear hW; go_simp)
    try simp only [Act.put, sA_, s0_, sS_]
    refine hr_ 5 (.pointer (some ⟨g, 0, none⟩)) rfl y0 (fun W hW => ?_) ?_
    · (clear hW; go_simp)
    try simp only [Act.put, sA_, s0_, sS_]
    refine hr_ 6 (.pointer (some ⟨g, 1, none⟩)) rfl y0 (fun W hW => ?_) ?_
    · (clear hW; go_simp)
    try simp only [Act.put, sA_, s0_, sS_]
    refine hr_ 7 (.int .i64 (at_ : Int)) rfl y0 (fun W hW => ?_) ?_
    · (obtain ⟨c0, c1, c2⟩ := HCL.out W hW; clear hW; go_simp)
    try simp only [Act.put, sA_, s0_, sS_]
    refine hr_ 8 (.slice a1 m1 k1) rfl y0 (fun W hW => ?_) ?_
    · (clear hW; go_simp)
    try simp only [Act.put, sA_, s0_, sS_]
    refine hc_ 9 rfl (fun K hK => ?_)
    go_simp
    go_at_call 128
    refine Calls.mono (RRead_any (HB1.out.below y0)) ?_
    rintro e W2 ⟨rfl, nq, hw2⟩
    have y1 : Ext w W2 := by rw [hw2]; exact y0.trans' (ext_drewN _ nq)
    clear hw2
    rw [← HR.out]
    go_wp2_with fail
    refine hK.out _ _ y1 (fun hH => ?_)
    clear hK K y0
    have y0 := y1
    clear y1
    try simp only [Act.put, sA_, s0_, sS_]
    refine hr_ 10 (.tuple #[.int .i64 (N : Int), .int .i64 (K : Int), .int .i64 E]) rfl y0 (fun W hW => ?_) ?_
    · (clear hW; go_simp)
    try simp only [Act.put, sA_, s0_, sS_]
    refine hr_ 11 (.int .i64 (N : Int)) rfl y0 (fun W hW => ?_) ?_
    · (clear hW; go_simp)
    try simp only [Act.put, sA_, s0_, sS_]
    refine hr_ 12 (.int .i64 (K : Int)) rfl y0 (fun W hW => ?_) ?_
    · (clear hW; go_simp)
    try simp only [Act.put, sA_, s0_, sS_]
    refine hr_ 13 (.int .i64 E) rfl y0 (fun W hW => ?_) ?_
    · (clear hW; go_simp)
    try simp only [Act.put, sA_, s0_, sS_]
    refine hr_ 14 (.int .i64 (N : Int)) rfl y0 (fun W hW => ?_) ?_
    · (clear hW; go_simp)
    try simp only [Act.put, sA_, s0_, sS_]
    refine hr_ 15 (.int .i64 (K : Int)) rfl y0 (fun W hW => ?_) ?_
    · (clear hW; go_simp)
    try simp only [Act.put, sA_, s0_, sS_]
    refine hr_ 16 (.int .i64 E) rfl y0 (fun W hW => ?_) ?_
    · (clear hW; go_simp)
    try simp only [Act.put, sA_, s0_, sS_]
    refine wpAnyH_done (by kernel_rfl) ?_ _
    clear hH
    have hobj := (y0.block g hgl).trans HH.out
    have HX := hid y0
    have hS := ((SetG.start hobj).step 1 (.int .i64 (p2 : Int))).step 2 (.int .i64 E)
    have HS := hid hS
    obtain ⟨⟨c0, c1, c2⟩, ⟨f0, f1, f2⟩, hgl2⟩ := rcells3 hobj
    clear hobj hS y0 hgl
    go_wp2
    go_ret
    refine ⟨rfl, ⟨a, n, c, HS.out.obj, (HB.out.below HX.out).keep fun q hq hl => ⟨hq, HS.out.frm.block q hl (by intro e; have e : q = g := e; rw [e] at hq; exact HG.out hq)⟩, HP2.out, HG.out⟩, Frm.after_ext HX.out HS.out.frm⟩
  have hz : (s.err != 0) = true := by simpa using he
  have hnum : s.num = (0, s) := by unfold Sc.num; rw [if_pos he]
  rw [hnum]
  have H := hid h
  obtain ⟨er, her⟩ : ∃ er, er = s.err := ⟨_, rfl⟩
  rw [← her] at hz c2
  clear h h1 h2 h3 h4 he hnum her
  go_enter Tryz.func104, Tryz.ntmps104
  go_wp2
  go_ret
  exact ⟨rfl, H.out, Frm.refl _ _⟩
end Go.Proofs.YtjapeaoebjmpnaaGreatDoor
