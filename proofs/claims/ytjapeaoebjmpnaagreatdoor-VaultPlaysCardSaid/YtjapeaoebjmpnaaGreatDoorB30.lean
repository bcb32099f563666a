/- The walks of the reference's Digits and Number. -/
import Derived.Test.YtjapeaoebjmpnaaGreatDoorB07
import Derived.Laws.BitsAllLaws
namespace Go.Proofs.YtjapeaoebjmpnaaGreatDoor
open Go.RowKit Go.Maps
set_option linter.unusedVariables false
set_option linter.unusedSimpArgs false
attribute [local go_sem] bmax2 bmin2 bmax_two bmin_two

theorem hiB_fuel : ∀ (f g n : Nat), n < 128 ^ f → n < 128 ^ g → hiB f n = hiB g n := by
  intro f
  induction f with
  | zero =>
    intro g n h _
    have : n = 0 := by simpa using h
    subst this
    rw [hiB_zero, hiB_zero]
  | succ f ih =>
    intro g n h1 h2
    by_cases hn : n = 0
    · subst hn; rw [hiB_zero, hiB_zero]
    cases g with
    | zero => exact absurd (show n = 0 by simpa using h2) hn
    | succ g =>
      rw [hiB_succ f n hn, hiB_succ g n hn, ih g (n / 128) (by rw [Nat.div_lt_iff_lt_mul (by omega)]; rw [Nat.pow_succ] at h1; exact h1) (by rw [Nat.div_lt_iff_lt_mul (by omega)]; rw [Nat.pow_succ] at h2; exact h2)]
theorem numB_small {n : Nat} (h : n < 128) : numB n = [UInt8.ofNat n] := by
  unfold numB
  rw [show n / 128 = 0 by omega, hiB_zero, show n % 128 = n by omega]
  rfl
theorem numB_rec {n : Nat} (h : 128 ≤ n) (h2 : n < 9223372036854775808) : numB n = (hiB 8 (n / 128 / 128) ++ [UInt8.ofNat (n / 128 % 128 + 128)]) ++ [UInt8.ofNat (n % 128)] := by
  have e : hiB 8 (n / 128) = hiB 7 (n / 128 / 128) ++ [UInt8.ofNat (n / 128 % 128 + 128)] := hiB_succ 7 (n / 128) (by omega)
  have p7 : (128 : Nat) ^ 7 = 562949953421312 := by decide
  have p8 : (128 : Nat) ^ 8 = 72057594037927936 := by decide
  rw [hiB_fuel 7 8 (n / 128 / 128) (by omega) (by omega)] at e
  unfold numB
  rw [e]
def DigPost (d : By) (w : World) (e : Ending) (w' : World) : Prop := ∃ g c, e = .returned (.slice (some ⟨g, 0, none⟩) d.length c) ∧ OwnB w.heap.size w' (.slice (some ⟨g, 0, none⟩) d.length c) d.length d ∧ Ext w w'

theorem ownB_one (w : World) (B : Nat) (h : B ≤ w.heap.size) (x : UInt8) : OwnB B (w.alloc (.cells #[.int .u8 (x.toNat : Int)] 5)) (.slice (some ⟨w.heap.size, 0, none⟩) 1 1) 1 [x] :=
  ⟨rfl, w.heap.size, 1, rfl, rfl, .inr ⟨_, 1, _, rfl, h, heap_alloc_new w _, Nat.le_refl _, by unfold maxLen; omega, rfl, rfl⟩⟩
set_option maxRecDepth 100000 in
set_option maxHeartbeats 4000000 in
theorem RDigits_low (w : World) {x : Int} (h : x < 128) (hx : In64 x) : Calls Tryz.prog 129 #[.int .i64 x] w (DigPost (numS x) w) := by
  obtain ⟨m, hm⟩ : ∃ m : Nat, max x 0 = (m : Int) := ⟨(max x 0).toNat, by omega⟩
  have hm2 : m < 128 := by omega
  have hn : numS x = [UInt8.ofNat m] := by unfold numS; rw [hm, Int.toNat_natCast, numB_small hm2]
  have ht : ((UInt8.ofNat m).toNat : Int) = (m : Int) := by rw [UInt8.toNat_ofNat']; omega
  have hu : IntKind.u8.wrap (m : Int) = (m : Int) := by rw [IntKind.wrap_u8]; omega
  obtain ⟨y, hy⟩ : ∃ y, y = UInt8.ofNat m := ⟨_, rfl⟩
  rw [← hy] at hn ht
  rw [hn]
  have HO := hid (ownB_one w w.heap.size (Nat.le_refl _) y)
  rw [ht] at HO
  clear hn hy
  go_enter Tryz.func129, Tryz.ntmps129
  go_wp2
  go_ret
  exact ⟨_, _, rfl, HO.out, ext_alloc _ _⟩
set_option maxRecDepth 100000 in
set_option maxHeartbeats 8000000 in
theorem RDigits_nat : ∀ (n : Nat), n < 9223372036854775808 → ∀ w : World, Calls Tryz.prog 129 #[.int .i64 (n : Int)] w (DigPost (numB n) w) := by
  intro n
  induction n using Nat.strongRecOn with
  | _ n ih =>
    intro hn w
    by_cases hlt : n < 128
    · have := RDigits_low w (x := (n : Int)) (by omega) ⟨by omega, by omega⟩
      have e : numS (n : Int) = numB n := by unfold numS; rw [show (max (n : Int) 0).toNat = n by omega]
      rw [e] at this
      exact this
    obtain ⟨m, hm⟩ : ∃ m, m = n / 128 := ⟨_, rfl⟩
    have hI := ih m (by omega) (by omega) w
    have hq : (n : Int) / 128 = (m : Int) := by omega
    obtain ⟨r, hr⟩ : ∃ r, r = n % 128 := ⟨_, rfl⟩
    have hq2 : (n : Int) % 128 = (r : Int) := by omega
    have hr2 : r < 128 := by omega
    have hru : IntKind.u8.wrap (r : Int) = (r : Int) := by rw [IntKind.wrap_u8]; omega
    obtain ⟨hi, hhi⟩ : ∃ hi, hi = hiB 8 (m / 128) := ⟨_, rfl⟩
    obtain ⟨k, hk⟩ : ∃ k, k = m % 128 := ⟨_, rfl⟩
    have hk2 : k < 128 := by omega
    obtain ⟨y, hy⟩ : ∃ y, y = UInt8.ofNat k := ⟨_, rfl⟩
    obtain ⟨z, hz⟩ : ∃ z, z = UInt8.ofNat (k + 128) := ⟨_, rfl⟩
    obtain ⟨x, hx⟩ : ∃ x, x = UInt8.ofNat r := ⟨_, rfl⟩
    have hyn : y.toNat = k := by rw [hy, UInt8.toNat_ofNat']; omega
    have hzn : z.toNat = k + 128 := by rw [hz, UInt8.toNat_ofNat']; omega
    have hxn : x.toNat = r := by rw [hx, UInt8.toNat_ofNat']; omega
    have e1 : numB m = hi ++ [y] := by rw [hhi, hy, hk]; rfl
    have e2 : numB n = (hi ++ [z]) ++ [x] := by rw [numB_rec (by omega) hn, hhi, hz, hx, hk, hm, hr]
    have hil : hi.length ≤ 8 := by rw [hhi]; exact hiB_len 8 _
    rw [e2]
    rw [e1] at hI
    have hyu : IntKind.u8.wrap ((k : Int) + 128) = (k : Int) + 128 := by rw [IntKind.wrap_u8]; omega
    have hge : (128 : Int) ≤ (n : Int) := by omega
    have hIl : (hi ++ [y]).length = hi.length + 1 := by simp
    have HI := hid hI
    have HY := hid hyn
    have HZ := hid hzn
    have HX := hid hxn
    have hn64 : (n : Int) ≤ 9223372036854775807 := by omega
    clear ih hI hm hr hhi hk hy hz hx hyn hzn hxn e1 e2 hlt hn
    generalize hL : hi.length = L at *
    go_enter Tryz.func129, Tryz.ntmps129
    go_wp2_with fail
    refine Calls.mono HI.out ?_
    rintro e w1 ⟨g, c, rfl, hown, hx1⟩
    rw [hIl] at hown ⊢
    obtain ⟨-, g', c', hv, hrow⟩ := hown
    injection hv with hv1 hv2 hv3
    injection hv1 with hv1
    injection hv1 with hv1
    subst hv1; subst hv3
    have hraw := hrow.1
    obtain ⟨hst, hgr⟩ := hrow.stored L (.int .u8 (z.toNat : Int))
    have hc1 : w1.cell? ⟨g, L, none⟩ = some (.int .u8 (y.toNat : Int)) := (hrow.cellAt L (by omega)).trans (by simp [u8s, ← hL])
    have hc2 : w1.frozen? ⟨g, L, none⟩ = false := hrow.frozenAt L
    rw [HY.out] at hc1
    rw [HZ.out] at hst hgr
    have hset : (u8s (hi ++ [y])).set L (.int .u8 ((k + 128 : Nat) : Int)) = u8s (hi ++ [z]) := by
      rw [← HZ.out]
      unfold u8s
      rw [List.map_append, List.map_append, List.set_append]
      simp [hL]
    rw [hset] at hst
    rw [show ((k + 128 : Nat) : Int) = (k : Int) + 128 by omega] at hst hgr
    have hgw := (hrow.lt g rfl).1
    have hgs := (hrow.lt g rfl).2
    have hx2 : Ext w (w1.setCell ⟨g, L, none⟩ (.int .u8 ((k : Int) + 128))) := hx1.grown hgr (hx1.size) (fun q hq => by injection hq with hq; omega)
    have hzz : (w1.setCell ⟨g, L, none⟩ (.int .u8 ((k : Int) + 128))).heap.size = w1.heap.size := by simp
    have hx3 := ext_alloc (w1.setCell ⟨g, L, none⟩ (.int .u8 ((k : Int) + 128))) (.cells #[.int .u8 (r : Int)] 5)
    have HO := hid (show OwnB w.heap.size ((w1.setCell ⟨g, L, none⟩ (.int .u8 ((k : Int) + 128))).alloc (.cells #[.int .u8 (r : Int)] 5)) (.slice (some ⟨g, 0, none⟩) (L + 1) c) (L + 1) (hi ++ [z]) from
      ⟨by simp [hL], g, c, rfl, hst.alloc _⟩)
    have hb1 := by_one (w1.setCell ⟨g, L, none⟩ (.int .u8 ((k : Int) + 128))) x 5
    rw [HX.out, hzz] at hb1
    have HB1 := hid hb1
    have HX3 := hid (hx2.trans' hx3)
    have hw3 : w.heap.size ≤ ((w1.setCell ⟨g, L, none⟩ (.int .u8 ((k : Int) + 128))).alloc (.cells #[.int .u8 (r : Int)] 5)).heap.size := HX3.out.size
    have HW3 := hid hw3
    have hLi : (0 : Int) ≤ (L : Int) := by omega
    have HE := hid (show ((hi ++ [z]) ++ [x]).length = L + 1 + 1 by simp [hL])
    clear hst hgr hset hgw hgs hx2 hzz hx3 hb1 hw3 hrow hraw hx1
    go_wp2_with (at_builtin; refine wpList_appB rfl (.tmp 21) (.tmp 25) rfl w.heap.size _ (L + 1) (hi ++ [z]) rfl HO.out (some ⟨w1.heap.size, 0, none⟩) 1 1 [x] rfl HB1.out (by omega) HW3.out ?_; intro g2 c2 w2 hown2 hx2; have HO2 := hid hown2; have HX2 := hid (HX3.out.trans hx2); clear hown2 hx2)
    go_ret
    exact ⟨g2, c2, by rw [HE.out]; rfl, by rw [HE.out]; exact HO2.out, HX2.out⟩
theorem RDigits_any (w : World) {x : Int} (hx : In64 x) : Calls Tryz.prog 129 #[.int .i64 x] w (DigPost (numS x) w) := by
  by_cases h : x < 128
  · exact RDigits_low w h hx
  obtain ⟨h1, h2⟩ := hx
  have := RDigits_nat x.toNat (by omega) w
  rw [show ((x.toNat : Nat) : Int) = x by omega] at this
  have e : numS x = numB x.toNat := by unfold numS; rw [show (max x 0) = x by omega]
  rw [e]
  exact this

set_option maxRecDepth 100000 in
set_option maxHeartbeats 4000000 in
theorem RNumber_any {F : Nat → Prop} {w : World} {a : Option Addr} {n c : Nat} {b : By} (hb : ByF F w a n c b) (hn : n ≤ 1000000000000) (x : Int) (hx : In64 x) :
    Calls Tryz.prog 106 #[.slice a n c, .int .i64 x] w (DigPost (b ++ numS x) w) := by
  have HB := hid (hb.below (ext_alloc w (.cells #[] 5)))
  have HO := hid (ownB_made w w.heap.size (Nat.le_refl _))
  have HD := hid (fun W => RDigits_any W hx)
  have hnl := numB_len (max x 0).toNat
  obtain ⟨d, hd⟩ : ∃ d, d = numS x := ⟨_, rfl⟩
  have hdl : d.length ≤ 9 := by rw [hd]; exact hnl.2
  have HX0 := hid (ext_alloc w (.cells #[] 5))
  rw [← hd] at HD ⊢
  have hbn := hb.1
  have HBN := hid hbn
  clear hb hd hnl hbn
  go_enter Tryz.func106, Tryz.ntmps106
  go_wp2_with (first
    | (at_builtin; refine wpList_appB rfl (.tmp 5) (.tmp 6) rfl w.heap.size _ 0 [] rfl HO.out a n c b rfl HB.out (by omega) (by simp) ?_; intro g1 c1 w1 hown1 hx1; have HO1 := hid (OwnB.zero hown1); have HX1 := hid (show Ext w w1 from HX0.out.trans hx1); clear hown1 hx1)
    | (go_at_call 129; refine Calls.mono (HD.out _) ?_; rintro e w2 ⟨g2, c2, rfl, hown2, hx2⟩; have HO2 := hid (HO1.out.ext hx2); have HB2 := hid (hown2.any (by omega)); have HX2 := hid (HX1.out.trans' hx2); clear hown2 hx2)
    | (at_builtin; refine wpList_appB rfl (.tmp 7) (.tmp 9) rfl w.heap.size _ n b rfl HO2.out (some ⟨g2, 0, none⟩) d.length c2 d rfl HB2.out (by omega) HX2.out.size ?_; intro g3 c3 w3 hown3 hx3; have HO3 := hid hown3; have HX3 := hid (HX2.out.trans hx3); clear hown3 hx3))
  go_ret
  have he : (b ++ d).length = n + d.length := by rw [List.length_append, HBN.out]
  exact ⟨g3, c3, by rw [he]; rfl, by rw [he]; exact HO3.out, HX3.out⟩
end Go.Proofs.YtjapeaoebjmpnaaGreatDoor

/- The walks of the reference's Sum and Record. -/
namespace Go.Proofs.YtjapeaoebjmpnaaGreatDoor
open Go.RowKit Go.Maps
set_option linter.unusedVariables false
set_option linter.unusedSimpArgs false
attribute [local go_sem] bmax2 bmin2 bmax_two bmin_two

theorem i64_xor_nat (a b : Nat) (ha : a < 9223372036854775808) (hb : b < 9223372036854775808) : bits .xor .i64 (a : Int) (b : Int) = ((a ^^^ b : Nat) : Int) := by
  have hx : a ^^^ b < 2 ^ 63 := Nat.xor_lt_two_pow (by omega) (by omega)
  show IntKind.i64.wrap ((BitVec.ofInt 64 (a : Int) ^^^ BitVec.ofInt 64 (b : Int)).toNat : Int) = _
  rw [BitVec.toNat_xor, ofInt_u64 a (by omega), ofInt_u64 b (by omega)]
  exact IntWalk.i64_in _ ⟨by omega, by omega⟩
set_option maxRecDepth 100000 in
set_option maxHeartbeats 4000000 in
theorem RSum_any {F : Nat → Prop} {w : World} {a : Option Addr} {n c : Nat} {d : By} (h : ByF F w a n c d) :
    Calls Tryz.prog 130 #[.slice a n c] w (fun e w' => e = .returned (.int .u32 (crc d : Int)) ∧ w' = w) := by
  have hnL := h.1
  have hn24 := h.2.2.1.2
  have HB := hid h
  have HN := hid hnL
  have HCR := hid (crc_lt d)
  clear h hnL
  go_enter Tryz.func130, Tryz.ntmps130
  go_wp2
  go_loop [3, 5, 8, 17] (fun x _ z _ => ∃ (k m : Nat), k ≤ n ∧ z = .int .i64 k ∧ x = .int .i64 (m : Int) ∧ Hid (m = (d.take k).foldl crcB 4294967295) ∧ m < 4294967296) (fun _ _ z _ => n - (intOf z).toNat)
  case atStart => exact ⟨0, 4294967295, Nat.zero_le _, rfl, rfl, rfl, by omega⟩
  obtain ⟨k, m, hk, rfl, rfl, HM, hm⟩ := hrel
  by_cases hlt : k < n
  · obtain ⟨b, o, rfl, -, hbl, hkl, q⟩ := HB.out.at_ hlt
    have hfd : (d.take (k + 1)).foldl crcB 4294967295 = crcB ((d.take k).foldl crcB 4294967295) d[k] := by rw [List.take_succ_eq_append_getElem hkl, List.foldl_append]; rfl
    have HFD := hid hfd
    generalize d[k] = x at *
    obtain ⟨xn, hxn⟩ : ∃ xn, xn = x.toNat := ⟨_, rfl⟩
    have hxl : xn < 256 := hxn ▸ x.toNat_lt
    rw [← hxn] at q
    have hxor := i64_xor_nat m (xn * 16777216) (by omega) (by omega)
    have hm3 : m ^^^ (xn * 16777216) < 4294967296 := Nat.xor_lt_two_pow (n := 32) (by omega) (by omega)
    obtain ⟨m3, hm3e⟩ : ∃ m3, m3 = m ^^^ (xn * 16777216) := ⟨_, rfl⟩
    rw [← hm3e] at hm3 hxor
    rw [Int.natCast_mul] at hxor
    change bits .xor .i64 (m : Int) ((xn : Int) * 16777216) = _ at hxor
    have HC := hid (show crcB m x = crc8 8 m3 by rw [hm3e, hxn]; rfl)
    have hki : (k : Int) < (n : Int) := by omega
    have hki0 : (0 : Int) ≤ (k : Int) := by omega
    clear hfd hm3e hxn
    go_wp2
    go_loop [3, 17] (fun x z => ∃ (i m4 : Nat), i ≤ 8 ∧ z = .int .i64 i ∧ x = .int .i64 (m4 : Int) ∧ Hid (crc8 (8 - i) m4 = crc8 8 m3) ∧ m4 < 4294967296) (fun _ z => 8 - (intOf z).toNat)
    case atStart => exact ⟨0, m3, by omega, rfl, by first | rfl | rw [hxor], rfl, hm3⟩
    obtain ⟨i, m4, hi, rfl, rfl, HI, hm4⟩ := hrel
    by_cases hlt3 : i < 8
    · obtain ⟨m5, hm5⟩ : ∃ m5, m5 = crc1 m4 := ⟨_, rfl⟩
      have hm5l : m5 < 4294967296 := hm5 ▸ crc1_lt hm4
      have HI2 := hid (show crc8 (8 - (i + 1)) m5 = crc8 8 m3 by
        rw [← HI.out, hm5]
        have e : 8 - i = (8 - (i + 1)) + 1 := by omega
        rw [e]; rfl)
      clear hxor
      by_cases hb : 2147483648 ≤ m4
      · obtain ⟨m6, hm6⟩ : ∃ m6 : Nat, m6 = m4 * 2 - 4294967296 := ⟨_, rfl⟩
        have hxor2 := i64_xor_nat m6 79764919 (by omega) (by omega)
        have he : m6 ^^^ 79764919 = m5 := by rw [hm5]; unfold crc1; rw [if_pos hb, show m4 * 2 % 4294967296 = m6 by omega]
        rw [he] at hxor2
        have hxor3 : bits .xor .i64 (2 * (m4 : Int) - 4294967296) 79764919 = (m5 : Int) := by
          rw [show 2 * (m4 : Int) - 4294967296 = (m6 : Int) by omega]
          simpa using hxor2
        have hge : (4294967296 : Int) ≤ 2 * (m4 : Int) := by omega
        clear he hm5 hxor2
        go_wp2
        refine ⟨⟨i + 1, m5, by omega, by go_num, ?_, HI2, hm5l⟩, by simp [intOf]; omega⟩
        first | rfl | rw [hxor3]
      have hm6 : m5 = m4 * 2 := by rw [hm5]; unfold crc1; rw [if_neg hb]
      have hge : ¬ (4294967296 : Int) ≤ 2 * (m4 : Int) := by omega
      clear hm5
      go_wp2
      refine ⟨⟨i + 1, m5, by omega, by go_num, ?_, HI2, hm5l⟩, by simp [intOf]; omega⟩
      rw [hm6]
      congr 1
      omega
    obtain rfl : i = 8 := by omega
    have HM3 := hid (show m4 = (d.take (k + 1)).foldl crcB 4294967295 by rw [HFD.out, ← HM.out, HC.out, ← HI.out]; rfl)
    clear hxor
    go_wp2
    go_round
    case rel => exact ⟨k + 1, m4, by omega, by go_num, rfl, HM3, hm4⟩
    case measure => simp [intOf]; omega
  have hkn : k = n := by omega
  subst hkn
  have hL : d.take k = d := List.take_of_length_le (by have := HN.out; omega)
  rw [hL] at HM
  have hcrc : crc d = m := HM.out.symm
  have hu : IntKind.u32.wrap (m : Int) = (m : Int) := by rw [IntKind.wrap_u32]; omega
  have HCR := hid hcrc
  clear hL hcrc
  go_wp2
  go_ret
  exact ⟨by rw [HCR.out]; rfl, rfl⟩

set_option maxRecDepth 100000 in
set_option maxHeartbeats 4000000 in
theorem RRecord_any {F : Nat → Prop} {w : World} {a : Option Addr} {n c : Nat} {b : By} (hb : ByF F w a n c b) (hn : n ≤ 65536) :
    Calls Tryz.prog 107 #[.slice a n c] w (fun e w' => ∃ g c2, e = .returned (.tuple #[.slice (some ⟨g, 0, none⟩) (recB b).length c2, .int .i64 0]) ∧ OwnB w.heap.size w' (.slice (some ⟨g, 0, none⟩) (recB b).length c2) (recB b).length (recB b) ∧ Ext w w') := by
  have hnb := hb.1
  have HNB := hid hnb
  have HB := hid (hb.more (G := fun _ => True) fun _ _ => trivial)
  have HNum := hid (RNumber_any (by_one w 93 5) (by omega) (n : Int) ⟨by omega, by omega⟩)
  clear hb hnb
  go_enter Tryz.func107, Tryz.ntmps107
  go_wp2_with fail
  refine Calls.mono HNum.out ?_
  rintro e w1 ⟨g1, c1, rfl, hv1, hx1⟩
  have hx01 : Ext w w1 := (ext_alloc _ _).trans' hx1
  have hnS : [93] ++ numS (n : Int) = headB b := by
    unfold numS headB
    rw [show (max (n : Int) 0).toNat = b.length by have := HNB.out; omega]
    rfl
  rw [hnS] at hv1 ⊢
  obtain ⟨hd, hhd⟩ : ∃ hd, hd = headB b := ⟨_, rfl⟩
  rw [← hhd] at hv1 ⊢
  have hhl : hd.length ≤ 10 := by rw [hhd]; unfold headB; have := (numB_len b.length).2; simp; omega
  have HHD := hid hhd
  have HX1 := hid hx01
  have HO1 := hid (hv1.base (B' := w.heap.size) (by simp))
  have HBW := hid (HB.out.below hx01)
  have HBN := hid (show n = b.length from HNB.out)
  clear hv1 hx1 hnS hhd hx01 HNum
  go_wp2_with (at_builtin; refine wpList_appB rfl (.tmp 12) (.tmp 13) rfl w.heap.size _ hd.length hd rfl HO1.out a n c b rfl HBW.out (by omega) HX1.out.size ?_; intro g2 c2 w2 hown2 hx2; have HO2 := hid hown2; have HX2 := hid (show Ext w w2 from HX1.out.trans hx2); clear hown2 hx2)
  have hsum := RSum_any (HO2.out.any (by omega))
  obtain ⟨z, hz⟩ : ∃ z, z = crc (hd ++ b) := ⟨_, rfl⟩
  have hcl : z < 4294967296 := hz ▸ crc_lt (hd ++ b)
  rw [← hz] at hsum
  have HZ := hid hz
  have HSum := hid hsum
  clear hz hsum
  refine Calls.mono HSum.out ?_
  rintro e w3 ⟨rfl, hw3⟩
  subst hw3
  obtain ⟨x0, hx0⟩ : ∃ x0 : Nat, x0 = z / 16777216 := ⟨_, rfl⟩
  obtain ⟨x1, hx1⟩ : ∃ x1 : Nat, x1 = z / 65536 % 256 := ⟨_, rfl⟩
  obtain ⟨x2, hx2⟩ : ∃ x2 : Nat, x2 = z / 256 % 256 := ⟨_, rfl⟩
  obtain ⟨x3, hx3⟩ : ∃ x3 : Nat, x3 = z % 256 := ⟨_, rfl⟩
  have e0 : (z : Int) / 16777216 = (x0 : Int) := by omega
  have e1 : (z : Int) / 65536 % 256 = (x1 : Int) := by omega
  have e2 : (z : Int) / 256 % 256 = (x2 : Int) := by omega
  have e3 : (z : Int) % 256 = (x3 : Int) := by omega
  have u0 : IntKind.u8.wrap (x0 : Int) = (x0 : Int) := by rw [IntKind.wrap_u8]; omega
  have u1 : IntKind.u8.wrap (x1 : Int) = (x1 : Int) := by rw [IntKind.wrap_u8]; omega
  have u2 : IntKind.u8.wrap (x2 : Int) = (x2 : Int) := by rw [IntKind.wrap_u8]; omega
  have u3 : IntKind.u8.wrap (x3 : Int) = (x3 : Int) := by rw [IntKind.wrap_u8]; omega
  have hzi : IntKind.i64.wrap (z : Int) = (z : Int) := IntWalk.i64_in _ ⟨by omega, by omega⟩
  have hb4 := by_four w3 (UInt8.ofNat x0) (UInt8.ofNat x1) (UInt8.ofNat x2) (UInt8.ofNat x3) 5
  rw [show ((UInt8.ofNat x0).toNat : Int) = (x0 : Int) by rw [UInt8.toNat_ofNat']; omega, show ((UInt8.ofNat x1).toNat : Int) = (x1 : Int) by rw [UInt8.toNat_ofNat']; omega, show ((UInt8.ofNat x2).toNat : Int) = (x2 : Int) by rw [UInt8.toNat_ofNat']; omega,
    show ((UInt8.ofNat x3).toNat : Int) = (x3 : Int) by rw [UInt8.toNat_ofNat']; omega] at hb4
  have HB4 := hid hb4
  have HF := hid (show recB b = hd ++ b ++ [UInt8.ofNat x0, UInt8.ofNat x1, UInt8.ofNat x2, UInt8.ofNat x3] by
    unfold recB; rw [← HHD.out, ← HZ.out, hx0, hx1, hx2, hx3]; rfl)
  have HO3 := hid (HO2.out.ext (ext_alloc w3 (.cells #[.int .u8 (x0 : Int), .int .u8 (x1 : Int), .int .u8 (x2 : Int), .int .u8 (x3 : Int)] 5)))
  have HX3 := hid (HX2.out.trans' (ext_alloc w3 (.cells #[.int .u8 (x0 : Int), .int .u8 (x1 : Int), .int .u8 (x2 : Int), .int .u8 (x3 : Int)] 5)))
  clear hb4 hx0 hx1 hx2 hx3 HSum HO2
  go_wp2_with (at_builtin; refine wpList_appB rfl (.tmp 18) (.tmp 33) rfl w.heap.size _ (hd.length + n) (hd ++ b) rfl HO3.out (some ⟨w3.heap.size, 0, none⟩) 4 4 _ rfl HB4.out (by omega) HX3.out.size ?_; intro g4 c4 w4 hown4 hx4; have HO4 := hid hown4; have HX4 := hid (show Ext w w4 from HX3.out.trans hx4); clear hown4 hx4)
  go_ret2
  have hl : (recB b).length = hd.length + n + 4 := by rw [HF.out, List.length_append, List.length_append, HBN.out]; rfl
  exact ⟨g4, c4, by rw [hl]; rfl, by rw [hl, HF.out]; exact HO4.out, HX4.out⟩
end Go.Proofs.YtjapeaoebjmpnaaGreatDoor
