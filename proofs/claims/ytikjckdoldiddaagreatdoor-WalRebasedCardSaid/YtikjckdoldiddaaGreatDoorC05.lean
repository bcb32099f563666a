/- The walk of Join. -/
import Derived.Test.YtikjckdoldiddaaGreatDoorC01
import Derived.Test.YtikjckdoldiddaaGreatDoorC00
import Derived.Laws.MakeOwn
import Derived.Laws.Bits128
import Derived.Laws.BitsAllLaws
namespace Go.Proofs.YtikjckdoldiddaaGreatDoor
open Go.RowKit Go.Maps
set_option linter.unusedVariables false
set_option linter.unusedSimpArgs false
attribute [local go_sem] bmax2 bmin2 bmax_two bmin_two

/-- Slices of bytes that lie in a row. -/
def BsF (F : Nat → Prop) (w : World) (a : Option Addr) (n c : Nat) (L : List By) : Prop :=
  n = L.length ∧ n ≤ c ∧ (c ≤ maxLen ∧ n * 24 ≤ 140737488351232) ∧ (a = none → c = 0) ∧
  ∀ p, a = some p → (0 < c → p.spot = none) ∧ ∀ k, (h : k < L.length) → F p.block ∧ ∃ a' n' c', w.cell? ⟨p.block, p.off + k, none⟩ = some (.slice a' n' c') ∧ ByF F w a' n' c' L[k]
theorem BsF.keep {F G : Nat → Prop} {w w' : World} {a : Option Addr} {n c : Nat} {L : List By} (h : BsF F w a n c L) (hf : ∀ k, F k → k < w.heap.size → G k ∧ w'.heap[k]? = w.heap[k]?) : BsF G w' a n c L := by
  obtain ⟨h1, h2, h3, h4, h5⟩ := h
  refine ⟨h1, h2, h3, h4, fun p hp => ⟨(h5 p hp).1, fun k hk => ?_⟩⟩
  obtain ⟨h6, a', n', c', h7, h8⟩ := (h5 p hp).2 k hk
  obtain ⟨hg, he⟩ := hf p.block h6 (World.block_lt_of_cell? w ⟨p.block, p.off + k, none⟩ h7)
  exact ⟨hg, a', n', c', (World.cell?_of_block (w := w) (a := ⟨p.block, p.off + k, none⟩) he).trans h7, h8.keep hf⟩
theorem BsF.below {F : Nat → Prop} {w w' : World} {a : Option Addr} {n c : Nat} {L : List By} (h : BsF F w a n c L) (hx : Ext w w') : BsF F w' a n c L := h.keep fun k hk hl => ⟨hk, hx.block k hl⟩
theorem BsF.at_ {F : Nat → Prop} {w : World} {a : Option Addr} {n c : Nat} {L : List By} (h : BsF F w a n c L) {k : Nat} (hk : k < n) :
    ∃ b o, a = some ⟨b, o, none⟩ ∧ b < w.heap.size ∧ ∃ hl : k < L.length, ∃ a' n' c', w.cell? ⟨b, o + k, none⟩ = some (.slice a' n' c') ∧ ByF F w a' n' c' L[k] := by
  obtain ⟨rfl, h2, h3, h4, h5⟩ := h
  cases a with
  | none => have := h4 rfl; omega
  | some p =>
    obtain ⟨b, o, s⟩ := p
    have hs : s = none := (h5 _ rfl).1 (by omega)
    subst hs
    obtain ⟨h6, a', n', c', h7, h8⟩ := (h5 _ rfl).2 k hk
    exact ⟨b, o, rfl, World.block_lt_of_cell? w _ h7, hk, a', n', c', h7, h8⟩
/-- Two values that were laid in a block of their own. -/
theorem bs_lit {F : Nat → Prop} {w : World} (H : List (Option Addr × Nat × Nat)) (L : List By) (hl : H.length = L.length) (hn : L.length ≤ 1000) (hH : ∀ k (h1 : k < H.length) (h2 : k < L.length), ByF F w H[k].1 H[k].2.1 H[k].2.2 L[k]) (t : TypeId) :
    BsF (fun q => F q ∨ q = w.heap.size) (w.alloc (.cells (H.map fun x => Value.slice x.1 x.2.1 x.2.2).toArray t)) (some ⟨w.heap.size, 0, none⟩) L.length L.length L := by
  refine ⟨rfl, Nat.le_refl _, ⟨by unfold maxLen; omega, by omega⟩, (fun e => by cases e), fun p hp => ?_⟩
  cases hp
  refine ⟨fun _ => rfl, fun k hk => ⟨.inr rfl, H[k].1, H[k].2.1, H[k].2.2, ?_, ?_⟩⟩
  · rw [Nat.zero_add]
    unfold World.cell?
    rw [heap_alloc_new]
    simp [List.getElem?_eq_getElem (by omega : k < H.length)]
  exact ((hH k (by omega) hk).below (ext_alloc w _)).more fun q hq => .inl hq

theorem flat_take (L : List By) (k : Nat) (hk : k < L.length) : (L.take (k + 1)).flatten = (L.take k).flatten ++ L[k] := by
  rw [List.take_succ_eq_append_getElem hk, List.flatten_append, List.flatten_cons, List.flatten_nil, List.append_nil]
theorem flat_take_le (L : List By) (k : Nat) : (L.take k).flatten.length ≤ L.flatten.length := by
  conv => rhs; rw [← List.take_append_drop k L]
  rw [List.flatten_append, List.length_append]; omega

/-- What Join leaves. -/
def BytesPost (d : By) (w : World) (e : Ending) (w' : World) : Prop := ∃ g n c, e = .returned (.slice (some ⟨g, 0, none⟩) n c) ∧ OwnB w.heap.size w' (.slice (some ⟨g, 0, none⟩) n c) n d ∧ Ext w w'

set_option maxHeartbeats 2000000 in
theorem Join_any {F : Nat → Prop} {w : World} {a : Option Addr} {n c : Nat} {L : List By} (h : BsF F w a n c L) (htot : L.flatten.length ≤ 1099511627776) :
    Calls Tryz.prog 117 #[.slice a n c] w (BytesPost L.flatten w) := by
  have hnL := h.1
  have hn24 := h.2.2.1.2
  have HB := hid h
  have HN := hid hnL
  obtain ⟨i0, hi, hz, hz1, hz2⟩ := info_parts info_u8
  clear h hnL
  go_enter Tryz.func117, Tryz.ntmps117
  go_wp2
  go_loop [3, 5, 11] (fun x _ z => ∃ (k m : Nat), k ≤ n ∧ z = .int .i64 k ∧ x = .int .i64 (m : Int) ∧ Hid (m = (L.take k).flatten.length) ∧ m ≤ 1099511627776) (fun _ _ z => n - (intOf z).toNat)
  case atStart => exact ⟨0, 0, Nat.zero_le _, rfl, rfl, rfl, by omega⟩
  obtain ⟨k, m, hk, rfl, rfl, HM, hm⟩ := hrel
  by_cases hlt : k < n
  · obtain ⟨b, o, rfl, hbl, hkl, a', n', c', q, hby⟩ := HB.out.at_ hlt
    have hle := flat_take_le L (k + 1)
    have hft := flat_take L k hkl
    have hn' := hby.1
    have HM2 := hid (show m + n' = (L.take (k + 1)).flatten.length by rw [hft, List.length_append]; have := HM.out; omega)
    have hm2 : m + n' ≤ 1099511627776 := by have := HM2.out; omega
    clear hby hle hft hn'
    go_wp2
    go_round
    case rel => exact ⟨k + 1, m + n', by omega, by go_num, by go_num, HM2.out, hm2⟩
    case measure => simp [intOf]; omega
  have hkn : k = n := by omega
  subst hkn
  obtain ⟨w0, hrun, hown, hg⟩ := run_make_own w w.heap.size 37 5 i0 _ 1 Tryz.underlying37 hi hz hz1 .i64 .i64 m (by rw [hz2]; omega) (by unfold maxLen; omega) (Nat.le_refl _)
  have hx0 : Ext w w0 := (Below.refl _ _).grown hg (Nat.le_refl _) (by simp)
  have HO0 := hid (show OwnB w.heap.size w0 (.slice (some ⟨w.heap.size, 0, none⟩) 0 m) 0 [] from ⟨rfl, _, _, rfl, hown⟩)
  have HX0 := hid hx0
  clear hown hg hx0 HM
  go_wp2
  go_loopw [6, 8, 24] (fun v _ z wr => ∃ (k2 g2 c2 : Nat), k2 ≤ k ∧ z = .int .i64 k2 ∧ v = .slice (some ⟨g2, 0, none⟩) (L.take k2).flatten.length c2 ∧ Hid (OwnB w.heap.size wr v (L.take k2).flatten.length (L.take k2).flatten) ∧ Ext w wr) (fun _ _ z _ => k - (intOf z).toNat)
  case atStart => exact ⟨0, w.heap.size, m, Nat.zero_le _, rfl, rfl, HO0.out, HX0.out⟩
  obtain ⟨k2, g2, c2, hk2, rfl, rfl, HO, hx⟩ := hrel
  by_cases hlt2 : k2 < k
  · obtain ⟨b, o, rfl, hbl, hkl, a', n', c', q, hby⟩ := (HB.out.below hx).at_ hlt2
    have hle := flat_take_le L (k2 + 1)
    have hft := flat_take L k2 hkl
    obtain rfl : n' = L[k2].length := hby.1
    rw [hft, List.length_append] at hle
    have hsz := hx.size
    have HBY := hid hby
    have HFT := hid hft
    generalize L[k2] = d at *
    obtain ⟨dn, hdn⟩ : ∃ dn, dn = d.length := ⟨_, rfl⟩
    obtain ⟨tn, htn⟩ : ∃ tn, tn = (L.take k2).flatten.length := ⟨_, rfl⟩
    rw [← hdn] at q HBY hle
    rw [← htn] at HO hle ⊢
    have HDN := hid hdn
    have HTN := hid htn
    clear hby hft hdn htn
    go_wp2_with (at_builtin; refine wpList_appB rfl (.tmp 28) (.tmp 29) rfl w.heap.size _ tn (L.take k2).flatten rfl HO.out a' dn c' d rfl HBY.out (by omega) (by omega) ?_; intro g3 c3 w3 hown3 hx3; have hx03 : Ext w w3 := hx.trans hx3; have HO3 := hid hown3; clear hown3 hx3)
    go_roundw
    case rel =>
      have e : (L.take (k2 + 1)).flatten.length = tn + dn := by rw [HFT.out, List.length_append, HTN.out, HDN.out]
      refine ⟨k2 + 1, g3, c3, by omega, by go_num, by rw [e], ?_, hx03⟩
      rw [e, HFT.out]
      exact HO3.out
    case measure => simp [intOf]; omega
  have hkn : k2 = k := by omega
  subst hkn
  have hL : L.take k2 = L := List.take_of_length_le (by have := HN.out; omega)
  rw [hL] at HO ⊢
  go_wp2
  go_ret
  exact ⟨_, _, _, rfl, HO.out, hx⟩
end Go.Proofs.YtikjckdoldiddaaGreatDoor

/- The walk of Number. -/
namespace Go.Proofs.YtikjckdoldiddaaGreatDoor
open Go.RowKit Go.Maps
set_option linter.unusedVariables false
set_option linter.unusedSimpArgs false
attribute [local go_sem] bmax2 bmin2 bmax_two bmin_two i64_and127

/-- The array of groups, filled from a place on. -/
def GrpAt (w : World) (b i : Nat) (S : By) : Prop := ∃ cur : Array Value, w.heap[b]? = some (.cells cur 194 (0, 0)) ∧ cur.size = 9 ∧ cur.toList.drop i = u8s S ∧ i + S.length = 9
theorem GrpAt.step {w : World} {b i : Nat} {S : By} (h : GrpAt w b (i + 1) S) (x : UInt8) : GrpAt (w.setCell ⟨b, i, none⟩ (.int .u8 (x.toNat : Int))) b i (x :: S) := by
  obtain ⟨cur, h1, h2, h3, h4⟩ := h
  refine ⟨cur.setIfInBounds i (.int .u8 (x.toNat : Int)), heap_setCell_same w b i cur _ _ h1, by simpa using h2, ?_, by simp; omega⟩
  have hi : i < cur.toList.length := by rw [Array.length_toList, h2]; omega
  rw [Array.toList_setIfInBounds, List.drop_set, if_neg (by omega), Nat.sub_self, List.drop_eq_getElem_cons hi, List.set_cons_zero, h3]
  rfl
theorem GrpAt.cell {w : World} {b i : Nat} {S : By} (h : GrpAt w b i S) {j : Nat} (hj : j < 9) : (∃ v, w.cell? ⟨b, j, none⟩ = some v) ∧ w.frozen? ⟨b, j, none⟩ = false ∧ b < w.heap.size := by
  obtain ⟨cur, h1, h2, h3, h4⟩ := h
  refine ⟨⟨cur[j]'(by omega), ?_⟩, ?_, (Array.getElem?_eq_some_iff.1 h1).1⟩
  · simp [World.cell?, h1]
  simp [World.frozen?, h1]

/-- Bytes in a block, from a place on. -/
theorem by_block {w : World} {b i c : Nat} {S : By} {cur : Array Value} {t : TypeId} {z : Nat × Nat} (h : w.heap[b]? = some (.cells cur t z)) (hS : (cur.toList.drop i).take S.length = u8s S) (hc : S.length ≤ c) (hm : c ≤ maxLen ∧ S.length ≤ 140737488351232) :
    ByF (fun q => q = b) w (some ⟨b, i, none⟩) S.length c S := by
  refine ⟨rfl, hc, hm, (fun e => by cases e), fun p hp => ?_⟩
  cases hp
  refine ⟨fun _ => rfl, fun k hk => ⟨rfl, ?_⟩⟩
  have e := congrArg (fun l => l[k]?) hS
  simp only [List.getElem?_take, List.getElem?_drop, if_pos hk, u8s, List.getElem?_map, List.getElem?_eq_getElem hk, Option.map_some] at e
  unfold World.cell?
  simp only [h]
  simpa [Array.getElem?_toList] using e

set_option maxRecDepth 100000 in
set_option maxHeartbeats 2000000 in
theorem Number_any {F : Nat → Prop} {w : World} {a : Option Addr} {bn bc : Nat} {b : By} (hb : ByF F w a bn bc b) (hb24 : bn ≤ 1000000000) (n : Int) (hn : In64 n) :
    Calls Tryz.prog 118 #[.slice a bn bc, .int .i64 n] w (BytesPost (b ++ numS n) w) := by
  obtain ⟨hn1, hn2⟩ := hn
  have HB := hid hb
  clear hb
  unfold numS
  obtain ⟨N, hN⟩ : ∃ N : Nat, max n 0 = (N : Int) := ⟨(max n 0).toNat, by omega⟩
  have hN2 : N < 9223372036854775808 := by omega
  have hNn : (max n 0).toNat = N := by omega
  rw [hNn]
  clear hNn
  go_enter Tryz.func118, Tryz.ntmps118
  go_wp2
  have hg0 : GrpAt (w.alloc (.cells #[.int .u8 0, .int .u8 0, .int .u8 0, .int .u8 0, .int .u8 0, .int .u8 0, .int .u8 0, .int .u8 0, .int .u8 ((UInt8.ofNat (N % 128)).toNat : Int)] 194)) w.heap.size 8 [UInt8.ofNat (N % 128)] :=
    ⟨_, heap_alloc_new w _, rfl, rfl, rfl⟩
  have hv : ((UInt8.ofNat (N % 128)).toNat : Int) = (N : Int) % 128 := by rw [UInt8.toNat_ofNat']; omega
  rw [hv] at hg0
  have HG0 := hid hg0
  clear hg0 hv
  go_loopw [1, 6] (fun x z wr => ∃ (m i : Nat) (S : By), z = .int .i64 (i : Int) ∧ x = .int .i64 (m : Int) ∧ Hid (GrpAt wr w.heap.size i S) ∧ Hid (hiB i m ++ S = numB N) ∧ m < 128 ^ i ∧ i ≤ 8 ∧ Ext w wr) (fun _ z _ => (intOf z).toNat)
  case atStart =>
    have h128 : N / 128 < 128 ^ 8 := by
      have : (128 : Nat) ^ 8 = 72057594037927936 := by decide
      omega
    exact ⟨N / 128, 8, [UInt8.ofNat (N % 128)], rfl, by go_num, HG0.out, rfl, h128, by omega, ext_alloc _ _⟩
  obtain ⟨m, i, S, rfl, rfl, HG, HS, hm, hi, hx⟩ := hrel
  by_cases hm0 : 0 < m
  · obtain ⟨i, rfl⟩ : ∃ j, i = j + 1 := by
      cases i with
      | zero => simp at hm; omega
      | succ j => exact ⟨j, rfl⟩
    obtain ⟨⟨v0, q0⟩, f0, hbl⟩ := HG.out.cell (j := i) (by omega)
    have hmN : m < 9223372036854775808 := by
      have : (128 : Nat) ^ (i + 1) ≤ 128 ^ 8 := Nat.pow_le_pow_right (by omega) hi
      have e : (128 : Nat) ^ 8 = 72057594037927936 := by decide
      omega
    have hor := u8_or128_right ((m : Int) % 128) (by omega) (by omega)
    have hst := hid (GrpAt.step HG.out (UInt8.ofNat (m % 128 + 128)))
    have hv : ((UInt8.ofNat (m % 128 + 128)).toNat : Int) = (m : Int) % 128 + 128 := by rw [UInt8.toNat_ofNat']; omega
    rw [hv, ← hor] at hst
    have hx2 : Ext w (wr.setCell ⟨w.heap.size, i, none⟩ (.int .u8 (bits .or .u8 ((m : Int) % 128) 128))) := hx.setCell (Nat.le_refl _) _
    have HS2 := hid (show hiB i (m / 128) ++ UInt8.ofNat (m % 128 + 128) :: S = numB N by rw [← HS.out, hiB_succ i m (by omega)]; simp)
    have hm3 : m / 128 < 128 ^ i := by rw [Nat.div_lt_iff_lt_mul (by omega)]; rw [Nat.pow_succ] at hm; exact hm
    clear hor hv
    go_wp2
    refine ⟨⟨m / 128, i, _, rfl, by go_num, hst, HS2, hm3, by omega, hx2⟩, ?_⟩
    simp [intOf]
  have hm00 : m = 0 := by omega
  subst hm00
  obtain ⟨cur, hb1, hb2, hb3, hb4⟩ := HG.out
  have hS : ByF (fun q => q = w.heap.size) wr (some ⟨w.heap.size, i, none⟩) (9 - i) (9 - i) S := by
    have e : 9 - i = S.length := by omega
    rw [e]
    exact by_block hb1 (by rw [hb3, List.take_of_length_le]; simp [u8s]) (Nat.le_refl _) (by unfold maxLen; omega)
  rw [hiB_zero, List.nil_append] at HS
  have HL := bs_lit (F := fun q => q = w.heap.size ∨ F q) (w := wr) [(a, bn, bc), (some ⟨w.heap.size, i, none⟩, 9 - i, 9 - i)] [b, S] rfl (by simp) (by
    intro k h1 h2
    match k with
    | 0 => exact (HB.out.below hx).more fun q hq => .inr hq
    | 1 => exact hS.more fun q hq => .inl hq
    | k + 2 => simp at h1; omega) 37
  have hal : Tryz.prog.arrayLen 194 = 9 := by kernel_rfl
  have hel : (sizeOf (Tryz.prog.elem 194)).run Tryz.prog wr = .ok 1 wr := by kernel_rfl
  have hsl : (Instr.sliceAt 194 (.pointer (some ⟨w.heap.size, 0, none⟩)) (some (.int .i64 (i : Int))) none none).run Tryz.prog wr = .ok (.slice (some ⟨w.heap.size, i, none⟩) (9 - i) (9 - i)) wr := by
    rw [run_sliceAt_array_l wr 194 ⟨w.heap.size, 0, none⟩ (by kernel_rfl) .i64 i (by omega) (by rw [hal]; omega), hel, hal]
    show Result.ok (slicedAt ⟨w.heap.size, 0, none⟩ (Int.toNat (i : Int)) 9 9 1) wr = _
    unfold slicedAt
    rw [Int.toNat_natCast, if_neg (by omega), Nat.mul_one]
    simp [Addr.add]
    try omega
  have hlen : ([b, S] : List By).flatten = b ++ numB N := by rw [← HS.out]; simp
  have hJ := Join_any HL (by have := numB_len N; have := HB.out.1; rw [hlen, List.length_append]; omega)
  rw [hlen] at hJ
  change Calls _ _ #[.slice (some ⟨wr.heap.size, 0, none⟩) 2 2] (wr.alloc (.cells #[.slice a bn bc, .slice (some ⟨w.heap.size, i, none⟩) (9 - i) (9 - i)] 37)) _ at hJ
  have HJ := hid hJ
  clear hal hel hlen HL hJ hS hb1 hb2 hb3 hb4 HG hm
  go_wp2_with fail
  refine Calls.mono HJ.out ?_
  rintro e w2 ⟨g2, n2, c2, rfl, hv, hx2⟩
  have hv2 := hid hv
  clear hv
  go_wp2
  go_ret
  have hz := hx.size
  exact ⟨_, _, _, rfl, hv2.out.base (B' := w.heap.size) (by simp; omega), (hx.trans' (ext_alloc _ _)).trans' hx2⟩
end Go.Proofs.YtikjckdoldiddaaGreatDoor

/- The walk of Sum. -/
namespace Go.Proofs.YtikjckdoldiddaaGreatDoor
open Go.RowKit Go.Maps
set_option linter.unusedVariables false
set_option linter.unusedSimpArgs false
attribute [local go_sem] bmax2 bmin2 bmax_two bmin_two

theorem crc1_lt {c : Nat} (h : c < 4294967296) : crc1 c < 4294967296 := by
  unfold crc1
  split
  · have h1 : (c * 2) % 4294967296 < 2 ^ 32 := by omega
    have h2 : 79764919 < 2 ^ 32 := by omega
    exact Nat.xor_lt_two_pow h1 h2
  omega
theorem crc8_lt : ∀ k {c : Nat}, c < 4294967296 → crc8 k c < 4294967296 := by
  intro k
  induction k with
  | zero => intro c h; exact h
  | succ k ih => intro c h; exact ih (crc1_lt h)
theorem crcB_lt {c : Nat} (h : c < 4294967296) (x : UInt8) : crcB c x < 4294967296 := by
  have h2 : x.toNat < 256 := x.toNat_lt
  exact crc8_lt 8 (Nat.xor_lt_two_pow (n := 32) (by omega) (by omega))
theorem crcF_lt : ∀ (b : By) {c : Nat}, c < 4294967296 → b.foldl crcB c < 4294967296 := by
  intro b
  induction b with
  | nil => intro c h; exact h
  | cons x b ih => intro c h; exact ih (crcB_lt h x)

set_option maxRecDepth 100000 in
set_option maxHeartbeats 2000000 in
theorem Sum_any {F : Nat → Prop} {w : World} {a : Option Addr} {n c : Nat} {L : List By} (h : BsF F w a n c L) :
    Calls Tryz.prog 154 #[.slice a n c] w (fun e w' => e = .returned (.int .u32 (crc L.flatten : Int)) ∧ w' = w) := by
  have hnL := h.1
  have hn24 := h.2.2.1.2
  have HB := hid h
  have HN := hid hnL
  clear h hnL
  go_enter Tryz.func154, Tryz.ntmps154
  go_wp2
  go_loop [3, 5, 7, 8, 11] (fun x _ _ _ z => ∃ (k m : Nat), k ≤ n ∧ z = .int .i64 k ∧ x = .int .u32 (m : Int) ∧ Hid (m = (L.take k).flatten.foldl crcB 4294967295) ∧ m < 4294967296) (fun _ _ _ _ z => n - (intOf z).toNat)
  case atStart => exact ⟨0, 4294967295, Nat.zero_le _, rfl, rfl, rfl, by omega⟩
  obtain ⟨k, m, hk, rfl, rfl, HM, hm⟩ := hrel
  by_cases hlt : k < n
  · obtain ⟨b, o, rfl, hbl, hkl, a', n', c', q, hby⟩ := HB.out.at_ hlt
    have hft := flat_take L k hkl
    have hn' := hby.1
    have hn4 := hby.2.2.1.2
    have HBY := hid hby
    generalize L[k] = d at *
    have HFT := hid hft
    have HND := hid hn'
    clear hby hft hn'
    go_wp2
    go_loop [3, 7, 8, 17] (fun x _ _ z => ∃ (j m2 : Nat), j ≤ n' ∧ z = .int .i64 j ∧ x = .int .u32 (m2 : Int) ∧ Hid (m2 = (d.take j).foldl crcB m) ∧ m2 < 4294967296) (fun _ _ _ z => n' - (intOf z).toNat)
    case atStart => exact ⟨0, m, Nat.zero_le _, rfl, rfl, rfl, hm⟩
    obtain ⟨j, m2, hj, rfl, rfl, HM2, hm2⟩ := hrel
    by_cases hlt2 : j < n'
    · obtain ⟨b2, o2, rfl, -, hbl2, hjl, q2⟩ := HBY.out.at_ hlt2
      have hfd : (d.take (j + 1)).foldl crcB m = crcB ((d.take j).foldl crcB m) d[j] := by rw [List.take_succ_eq_append_getElem hjl, List.foldl_append]; rfl
      have HFD := hid hfd
      generalize d[j] = x at *
      obtain ⟨xn, hxn⟩ : ∃ xn, xn = x.toNat := ⟨_, rfl⟩
      have hxl : xn < 256 := hxn ▸ x.toNat_lt
      rw [← hxn] at q2
      have hxor := u32_xor_nat m2 (xn * 16777216) hm2 (by omega)
      have hm3 : m2 ^^^ (xn * 16777216) < 4294967296 := Nat.xor_lt_two_pow (n := 32) (by omega) (by omega)
      obtain ⟨m3, hm3e⟩ : ∃ m3, m3 = m2 ^^^ (xn * 16777216) := ⟨_, rfl⟩
      rw [← hm3e] at hm3 hxor
      rw [Int.natCast_mul] at hxor
      change bits .xor .u32 (m2 : Int) ((xn : Int) * 16777216) = _ at hxor
      have HC := hid (show crcB m2 x = crc8 8 m3 by rw [hm3e, hxn]; rfl)
      clear hfd hm3e hxn
      go_wp2
      go_loop [3, 8, 26] (fun x _ z => ∃ (i m4 : Nat), i ≤ 8 ∧ z = .int .i64 i ∧ x = .int .u32 (m4 : Int) ∧ Hid (crc8 (8 - i) m4 = crc8 8 m3) ∧ m4 < 4294967296) (fun _ _ z => 8 - (intOf z).toNat)
      case atStart => exact ⟨0, m3, by omega, rfl, by first | rfl | rw [hxor], rfl, hm3⟩
      obtain ⟨i, m4, hi, rfl, rfl, HI, hm4⟩ := hrel
      by_cases hlt3 : i < 8
      · obtain ⟨m5, hm5⟩ : ∃ m5, m5 = crc1 m4 := ⟨_, rfl⟩
        have hm5l : m5 < 4294967296 := hm5 ▸ crc1_lt hm4
        have HI2 := hid (show crc8 (8 - (i + 1)) m5 = crc8 8 m3 by
          rw [← HI.out, hm5]
          have e : 8 - i = (8 - (i + 1)) + 1 := by omega
          rw [e]; rfl)
        clear hxor
        by_cases hb : 2147483648 ≤ m4
        · have ht : (m4 : Int) / 2147483648 = 1 := by omega
          have hxor2 := u32_xor_nat ((m4 * 2) % 4294967296) 79764919 (by omega) (by omega)
          have he : ((m4 * 2) % 4294967296) ^^^ 79764919 = m5 := by rw [hm5]; unfold crc1; rw [if_pos hb]
          rw [he] at hxor2
          have hxor3 : bits .xor .u32 ((m4 : Int) * 2 % 4294967296) 79764919 = (m5 : Int) := by simpa using hxor2
          clear he hm5 hxor2
          go_wp2
          refine ⟨⟨i + 1, m5, by omega, by go_num, ?_, HI2, hm5l⟩, by simp [intOf]; omega⟩
          first | rfl | rw [hxor3]
        have ht : (m4 : Int) / 2147483648 = 0 := by omega
        have hxor2 := u32_xor_nat (m4 * 2) 0 (by omega) (by omega)
        have he : (m4 * 2) ^^^ 0 = m5 := by rw [hm5]; unfold crc1; rw [if_neg hb, Nat.xor_zero]
        rw [he] at hxor2
        have hxor3 : bits .xor .u32 ((m4 : Int) * 2) 0 = (m5 : Int) := by simpa using hxor2
        clear he hm5 hxor2
        go_wp2
        refine ⟨⟨i + 1, m5, by omega, by go_num, ?_, HI2, hm5l⟩, by simp [intOf]; omega⟩
        first | rfl | rw [hxor3]
      obtain rfl : i = 8 := by omega
      have HM3 := hid (show m4 = (d.take (j + 1)).foldl crcB m by rw [HFD.out, ← HM2.out, HC.out, ← HI.out]; rfl)
      clear hxor
      go_wp2
      go_round
      case rel => exact ⟨j + 1, m4, by omega, by go_num, rfl, HM3, hm4⟩
      case measure => simp [intOf]; omega
    have hjn : j = n' := by omega
    subst hjn
    have HM3 := hid (show m2 = (L.take (k + 1)).flatten.foldl crcB 4294967295 by
      rw [HFT.out, List.foldl_append, ← HM.out, HM2.out, List.take_of_length_le (by have := HND.out; omega)])
    go_wp2
    go_round
    case rel => exact ⟨k + 1, m2, by omega, by go_num, rfl, HM3, hm2⟩
    case measure => simp [intOf]; omega
  have hkn : k = n := by omega
  subst hkn
  have hL : L.take k = L := List.take_of_length_le (by have := HN.out; omega)
  rw [hL] at HM
  have hcrc : crc L.flatten = m := HM.out.symm
  have HCR := hid hcrc
  clear hL hcrc
  go_wp2
  go_ret
  exact ⟨by rw [HCR.out]; rfl, rfl⟩
end Go.Proofs.YtikjckdoldiddaaGreatDoor
