/- Segments' names; the walks of name and number. -/
import Derived.Test.YtikjckdoldiddaaGreatDoorC08
import Derived.Test.YtikjckdoldiddaaGreatDoorC04
import Derived.Lib.AtoiAllCases
import Derived.Lib.AtoiErrMem
import Derived.Test.YtikjckdoldiddaaGreatDoorC14
namespace Go.Proofs.YtikjckdoldiddaaGreatDoor
open Go.RowKit Go.Maps
set_option linter.unusedVariables false
set_option linter.unusedSimpArgs false
attribute [local go_sem] bmax2 bmin2 bmax_two bmin_two

def padW (n : Nat) : By := Lib.repeatL [48] (12 - (Lib.itoa (n : Int)).length) ++ Lib.itoa (n : Int)
def fileW (n : Nat) : Nm := [119, 97, 108, 46] ++ padW n
theorem itoaW_len {n : Nat} (h1 : n < 1000000000000) : 1 ≤ (Lib.itoa (n : Int)).length ∧ (Lib.itoa (n : Int)).length ≤ 12 := by
  unfold Lib.itoa
  rw [if_neg (by omega), Lib.decDigits_length]
  refine ⟨Lib.nDigits_pos _, ?_⟩
  have hle : ∀ (k u : Nat), u < 10 ^ (k + 1) → Lib.nDigits u ≤ k + 1 := by
    intro k
    induction k with
    | zero => intro u hu; rw [Lib.nDigits_small (by simpa using hu)]; omega
    | succ k ih =>
      intro u hu
      by_cases hs : u < 10
      · rw [Lib.nDigits_small hs]; omega
      rw [Lib.nDigits_big hs]
      have := ih (u / 10) (by rw [Nat.div_lt_iff_lt_mul (by omega)]; rw [Nat.pow_succ] at hu; exact hu)
      omega
  exact hle 11 _ (by have : (10 : Nat) ^ (11 + 1) = 1000000000000 := by decide
                     omega)
theorem padW_len {n : Nat} (h1 : n < 1000000000000) : (padW n).length = 12 := by
  have := itoaW_len h1
  unfold padW
  rw [List.length_append, Lib.repeatL_length]
  simp; omega
theorem fileW_len {n : Nat} (h1 : n < 1000000000000) : (fileW n).length = 16 := by
  have := padW_len h1
  unfold fileW
  rw [List.length_append, this]; rfl
theorem itoaW_dec (n : Nat) : Lib.itoa (n : Int) = Lib.decDigits n := by
  unfold Lib.itoa
  rw [if_neg (by omega)]; rfl
theorem padW_val (n : Nat) : valB (padW n) = n := by
  unfold padW
  rw [valB_zeros, itoaW_dec]
  exact (valB_dec n).1
theorem padW_digit (n : Nat) : ∀ c ∈ padW n, 48 ≤ c ∧ c ≤ 57 := by
  intro c hc
  unfold padW at hc
  rcases List.mem_append.1 hc with h | h
  · rw [repeatL_mem _ _ h]; decide
  rw [itoaW_dec] at h
  exact (valB_dec n).2 c h
theorem padW_digB (n : Nat) : digB (padW n) := fun c hc => by
  obtain ⟨h1, h2⟩ := padW_digit n c hc
  rw [UInt8.le_iff_toNat_le] at h1 h2
  exact ⟨h1, h2⟩
theorem fileW_inj {m n : Nat} (h : fileW m = fileW n) : m = n := by
  have h2 := congrArg valB (List.append_cancel_left h)
  rwa [padW_val, padW_val] at h2
theorem fileW_lt {m n : Nat} (hm : m < 1000000000000) (hn : n < 1000000000000) (h : bytesBefore (fileW m) (fileW n) = true) : m < n := by
  unfold fileW at h
  rw [bb_append] at h
  have h2 := accB_bb _ _ 0 (by rw [padW_len hm, padW_len hn]) (padW_digB m) (padW_digB n) h
  have e1 : ∀ l, accB 0 l = valB l := fun _ => rfl
  rwa [e1, e1, padW_val, padW_val] at h2
theorem fileW_may {n : Nat} (h1 : n < 1000000000000) : mayS (fileW n) = true := by
  have hl := fileW_len h1
  unfold mayS
  rw [hl]
  rw [Bool.and_eq_true, Bool.and_eq_true]
  refine ⟨⟨by decide, by decide⟩, ?_⟩
  rw [List.all_eq_true]
  intro c hc
  unfold fileW at hc
  rcases List.mem_append.1 hc with h | h
  · have : ∀ c ∈ ([119, 97, 108, 46] : By), okC c = true := by decide
    exact this c h
  exact okC_digit (padW_digit n c h)
theorem accB_grow : ∀ (l : By) (x : Nat), digB l → x ≤ accB x l := by
  intro l
  induction l with
  | nil => intro x _; exact Nat.le_refl _
  | cons c l ih =>
    intro x h
    have h1 := ih (10 * x + (c.toNat - 48)) (fun z hz => h z (List.mem_cons_of_mem _ hz))
    have e : accB x (c :: l) = accB (10 * x + (c.toNat - 48)) l := rfl
    rw [e]; omega
theorem parse_acc : ∀ (l : By) (x : Nat), digB l → accB x l < 1000000000000000000 → Lib.parseUint10 x l = .ok (accB x l) := by
  intro l
  induction l with
  | nil => intro x _ _; rfl
  | cons c l ih =>
    intro x h hb
    have hc := h c (List.mem_cons_self ..)
    have ht : digB l := fun z hz => h z (List.mem_cons_of_mem _ hz)
    have e : accB x (c :: l) = accB (10 * x + (c.toNat - 48)) l := rfl
    rw [e] at hb ⊢
    have hg := accB_grow l (10 * x + (c.toNat - 48)) ht
    unfold Lib.parseUint10
    rw [if_pos hc, if_neg (by omega), if_neg (by omega), Nat.mul_comm x 10]
    exact ih _ ht hb
theorem atoi_pad {n : Nat} (h1 : n < 1000000000000) : Lib.atoiAll (padW n) = .ok (n : Int) := by
  have hl := padW_len h1
  have hd := padW_digB n
  have hv : accB 0 (padW n) = n := padW_val n
  generalize padW n = l at *
  cases l with
  | nil => cases hl
  | cons c l =>
    have hc := hd c (List.mem_cons_self ..)
    rw [Lib.atoiAll_plain c l (by omega) (by omega)]
    have hp : Lib.parseMag (c :: l) = .ok n := by
      unfold Lib.parseMag
      rw [if_neg (by simp), parse_acc _ _ hd (by omega), hv]
    rw [hp]
    unfold Lib.signless
    exact if_neg (by omega)

set_option maxHeartbeats 1000000 in
theorem nameW_any {w : World} (hT : TabP w) {n : Nat} (h1 : n < 1000000000000) :
    Calls Tryz.prog 61 #[.int .i64 n] w (fun e w' => e = .returned (.string ⟨(fileW n).toArray⟩) ∧ Ext w w') := by
  have hI := Tryz.strconv_Itoa (n : Int) (by omega) (by omega) w hT
  obtain ⟨hl1, hl2⟩ := itoaW_len h1
  have hnb0 : fileW n = [119, 97, 108, 46] ++ (Lib.repeatL [48] (12 - (Lib.itoa (n : Int)).length) ++ Lib.itoa (n : Int)) := rfl
  obtain ⟨t, ht⟩ : ∃ t, t = Lib.itoa (n : Int) := ⟨_, rfl⟩
  rw [← ht] at hI hl1 hl2 hnb0
  obtain ⟨z, hz⟩ : ∃ z, z = 12 - t.length := ⟨_, rfl⟩
  rw [← hz] at hnb0
  have hR := fun W => Tryz.strings_Repeat ⟨#[48]⟩ z W (by omega) (by simp [ByteArray.size]; omega)
  have hsub : (12 : Int) - (t.length : Int) = (z : Int) := by omega
  obtain ⟨rz, hrz⟩ : ∃ rz, rz = Lib.repeatL [48] z := ⟨_, rfl⟩
  have hrzl : rz.length = z := by rw [hrz, Lib.repeatL_length]; simp
  have hR2 : ∀ W, Calls Tryz.prog 115 #[.string ⟨#[48]⟩, .int .i64 z] W fun e w' => e = .returned (.string ⟨rz.toArray⟩) ∧ Below W.heap.size W w' := fun W => by rw [hrz]; exact hR W
  rw [← hrz, ← List.append_assoc] at hnb0
  obtain ⟨L1, hL1⟩ : ∃ L1 : Nm, L1 = [119, 97, 108, 46] ++ rz := ⟨_, rfl⟩
  obtain ⟨L2, hL2⟩ : ∃ L2 : Nm, L2 = L1 ++ t := ⟨_, rfl⟩
  have hl1l : L1.length = 4 + z := by rw [hL1, List.length_append, hrzl]; rfl
  have hadd1 : ∀ W, (Op.stringOp .add ⟨#[119, 97, 108, 46]⟩ ⟨rz.toArray⟩).run Tryz.prog W = .ok (.string ⟨L1.toArray⟩) W := fun W => by
    rw [hL1]
    exact run_string_add_lists W [119, 97, 108, 46] rz (by simp) (by omega)
  have hadd2 : ∀ W, (Op.stringOp .add ⟨L1.toArray⟩ ⟨t.toArray⟩).run Tryz.prog W = .ok (.string ⟨L2.toArray⟩) W := fun W => by
    rw [hL2]
    exact run_string_add_lists W L1 t (by omega) (by omega)
  rw [← hL1, ← hL2] at hnb0
  have HI := hid hI
  have HR := hid hR2
  clear hR2 hrz hrzl hL1 hL2 hl1l
  have HNB := hid hnb0
  clear hI hR hnb0 ht hz h1
  go_enter Tryz.func61, Tryz.ntmps61
  go_wp2_with fail
  refine Calls.mono HI.out ?_
  rintro e w1 ⟨rfl, k, os, hw1⟩
  have HX1 := hid (show Ext w w1 by rw [hw1]; exact ext_grow w k os)
  clear hw1
  go_wp2_with fail
  refine Calls.mono (HR.out w1) ?_
  rintro e w2 ⟨rfl, hx2⟩
  go_wp2
  go_ret
  exact ⟨by rw [HNB.out]; rfl, HX1.out.trans' hx2⟩
theorem cut_file (n : Nat) : Lib.trimPrefix (fileW n) [119, 97, 108, 46] = padW n ∧ Lib.hasPrefix (fileW n) [119, 97, 108, 46] = true := by
  have h : Lib.hasPrefix (fileW n) [119, 97, 108, 46] = true := rfl
  refine ⟨?_, h⟩
  unfold Lib.trimPrefix
  rw [if_pos h]; rfl
set_option maxHeartbeats 1000000 in
theorem numberW_any {w : World} (hT : TabP w) {n : Nat} (h0 : 1 ≤ n) (h1 : n < 1000000000000) :
    Calls Tryz.prog 58 #[.string ⟨(fileW n).toArray⟩] w (fun e w' => e = .returned (.int .i64 n) ∧ Ext w w') := by
  have hC := Tryz.strings_CutPrefix ⟨(fileW n).toArray⟩ ⟨#[119, 97, 108, 46]⟩ w
  have hA := fun W => Tryz.strconv_Atoi_ok ⟨(padW n).toArray⟩ (by have := padW_len h1; simp only [ByteArray.size, List.size_toArray]; omega) (n : Int) (by simpa using atoi_pad h1) W
  obtain ⟨c1, c2⟩ := cut_file n
  have hlen := padW_len h1
  have HN := hid (fun W (hW : Ext w W) => nameW_any (hT.ext hW) h1)
  generalize fileW n = f at *
  generalize padW n = p at *
  simp only [c1, c2] at hC
  have HC := hid hC
  have HA := hid hA
  have hf : (f != f) = false := by simp
  clear hC hA c1 c2 hT
  go_enter Tryz.func58, Tryz.ntmps58
  go_wp2_with fail
  refine Calls.mono HC.out ?_
  rintro e w1 ⟨rfl, rfl⟩
  go_wp2_with fail
  refine Calls.mono (HA.out w1) ?_
  rintro e w2 ⟨rfl, hw2⟩
  have HX := hid (show Ext w1 w2 by
    rcases hw2 with rfl | ⟨t, rfl⟩
    · exact Below.refl _ _
    exact Lib.bytesWorld_below _ _ _)
  clear hw2
  go_wp2_with fail
  refine Calls.mono (HN.out w2 HX.out) ?_
  rintro e w3 ⟨rfl, hx3⟩
  go_wp2
  go_ret
  exact ⟨rfl, HX.out.trans' hx3⟩
end Go.Proofs.YtikjckdoldiddaaGreatDoor

/- The walk of sized. -/
namespace Go.Proofs.YtikjckdoldiddaaGreatDoor
open Go.RowKit Go.Maps
set_option linter.unusedVariables false
set_option linter.unusedSimpArgs false
attribute [local go_sem] bmax2 bmin2 bmax_two bmin_two

theorem sizedB_take (L : List By) (k : Nat) (hk : k < L.length) : sizedB (L.take (k + 1)) = sizedB (L.take k) + (recB L[k]).length := by
  unfold sizedB
  rw [List.take_succ_eq_append_getElem hk, List.map_append, List.sum_append]; rfl
theorem sizedB_le : ∀ (L : List By), (∀ p ∈ L, p.length ≤ 65536) → sizedB L ≤ 65550 * L.length := by
  intro L
  induction L with
  | nil => intro _; exact Nat.le_refl _
  | cons p L ih =>
    intro h
    have h1 := ih fun q hq => h q (List.mem_cons_of_mem _ hq)
    have h2 := recB_le p
    have h3 := h p (List.mem_cons_self ..)
    have e : sizedB (p :: L) = (recB p).length + sizedB L := rfl
    rw [e, List.length_cons]; omega
set_option maxHeartbeats 2000000 in
theorem sized_any {F : Nat → Prop} {w : World} {a : Option Addr} {n c : Nat} {L : List By} (h : BsF F w a n c L) (hn : L.length ≤ 50000000) (hL : ∀ r ∈ L, r.length ≤ 65536) :
    Calls Tryz.prog 138 #[.slice a n c] w (fun e w' => e = .returned (.int .i64 (sizedB L : Nat)) ∧ Ext w w') := by
  have HB := hid h
  have HNL := hid h.1
  have hn5 : n ≤ 50000000 := by rw [h.1]; exact hn
  have HL := hid hL
  clear h hn hL
  go_enter Tryz.func138, Tryz.ntmps138
  go_wp2
  go_loopw [3, 5, 6, 7, 10] (fun x _ _ _ z wr => ∃ (k m : Nat), k ≤ n ∧ z = .int .i64 (k : Int) ∧ x = .int .i64 (m : Int) ∧ Hid (m = sizedB (L.take k)) ∧ m ≤ 65550 * k ∧ Hid (Ext w wr)) (fun _ _ _ _ z _ => n - (intOf z).toNat)
  case atStart => exact ⟨0, 0, Nat.zero_le _, rfl, rfl, rfl, by omega, Below.refl _ _⟩
  obtain ⟨k, m, hk, rfl, rfl, HM, hm, HX⟩ := hrel
  by_cases hlt : k < n
  · obtain ⟨b, o, rfl, hbl, hkl, a', n', c', q, hby⟩ := (HB.out.below HX.out).at_ hlt
    have h65 := HL.out _ (List.getElem_mem hkl)
    have hst := sizedB_take L k hkl
    have hnb := hby.1
    have hle := recB_le L[k]
    have HR := hid (Record_any hby (by omega))
    generalize L[k] = p at *
    obtain ⟨R, hR⟩ : ∃ R, R = recB p := ⟨_, rfl⟩
    rw [← hR] at HR hst hle
    obtain ⟨rl, hrl⟩ : ∃ rl, rl = R.length := ⟨_, rfl⟩
    rw [← hrl] at hst hle
    have HS := hid (show m + rl = sizedB (L.take (k + 1)) by rw [hst, ← HM.out])
    have hrl5 : rl ≤ 65550 := by omega
    have HRL := hid hrl
    clear hby hst hle hnb h65 hR hrl
    go_wp2_with fail
    refine Calls.mono HR.out ?_
    rintro e w1 ⟨g, n2, c2, rfl, ho, hx1⟩
    have hn2 : n2 = rl := by rw [HRL.out]; exact ho.1
    subst hn2
    have HX1 := hid (HX.out.trans' hx1)
    clear ho hx1
    go_wp2
    go_roundw
    case rel => exact ⟨k + 1, m + n2, by omega, by go_num, by go_num, HS.out, by omega, HX1.out⟩
    case measure => simp [intOf]; omega
  have hkn : k = n := by omega
  have HM2 := hid (show m = sizedB L by rw [HM.out, hkn, List.take_of_length_le (by have := HNL.out; omega)])
  clear HM
  go_wp2
  go_ret
  exact ⟨by rw [HM2.out]; rfl, HX.out⟩
end Go.Proofs.YtikjckdoldiddaaGreatDoor

/- A log's block; take on a log; the first rows. -/
namespace Go.Proofs.YtikjckdoldiddaaGreatDoor
open Go.RowKit Go.Maps
set_option linter.unusedVariables false
set_option linter.unusedSimpArgs false
attribute [local go_sem] bmax2 bmin2 bmax_two bmin_two

/-- A log's own cells: what records say, the first segment, the last one, its size. -/
def LgB (F : Nat → Prop) (w : World) (g : Nat) (dp : Value) (v : Wv) (fr tt sz : Nat) : Prop :=
  ∃ la ln lc, w.heap[g]? = some (.cells #[.int .i64 v.ht, .int .i64 v.hv, .int .i64 v.i, .int .i64 v.t, .slice la ln lc, dp, .int .i64 (fr : Int), .int .i64 (tt : Int), .int .i64 (sz : Int)] 64 (0, 0)) ∧ EsF F w la ln lc v.l
theorem cells9 {W : World} {b : Nat} {x0 x1 x2 x3 x4 x5 x6 x7 x8 : Value} {t : TypeId} (h : W.heap[b]? = some (.cells #[x0, x1, x2, x3, x4, x5, x6, x7, x8] t (0, 0))) :
    (W.cell? ⟨b, 0, none⟩ = some x0 ∧ W.cell? ⟨b, 1, none⟩ = some x1 ∧ W.cell? ⟨b, 2, none⟩ = some x2 ∧ W.cell? ⟨b, 3, none⟩ = some x3 ∧ W.cell? ⟨b, 4, none⟩ = some x4 ∧ W.cell? ⟨b, 5, none⟩ = some x5 ∧ W.cell? ⟨b, 6, none⟩ = some x6 ∧ W.cell? ⟨b, 7, none⟩ = some x7 ∧ W.cell? ⟨b, 8, none⟩ = some x8) ∧ (∀ j, W.frozen? ⟨b, j, none⟩ = false) ∧ b < W.heap.size :=
  ⟨⟨by simp [World.cell?, h], by simp [World.cell?, h], by simp [World.cell?, h], by simp [World.cell?, h], by simp [World.cell?, h], by simp [World.cell?, h], by simp [World.cell?, h], by simp [World.cell?, h], by simp [World.cell?, h]⟩, fun j => by simp [World.frozen?, h], (Array.getElem?_eq_some_iff.1 h).1⟩
theorem nine_set {w : World} {g : Nat} {x0 x1 x2 x3 x4 x5 x6 x7 x8 : Value} {t : TypeId} (h : w.heap[g]? = some (.cells #[x0, x1, x2, x3, x4, x5, x6, x7, x8] t (0, 0))) (v : Wv) (la : Option Addr) (ln lc : Nat) :
    SetG g t w (five w g v la ln lc) #[.int .i64 v.ht, .int .i64 v.hv, .int .i64 v.i, .int .i64 v.t, .slice la ln lc, x5, x6, x7, x8] :=
  (((((SetG.start h).step 0 _).step 1 _).step 2 _).step 3 _).step 4 _
theorem LgB.keep {F G : Nat → Prop} {w w' : World} {g : Nat} {dp : Value} {v : Wv} {fr tt sz : Nat} (h : LgB F w g dp v fr tt sz) (hg : w'.heap[g]? = w.heap[g]?) (hf : ∀ k, F k → k < w.heap.size → G k ∧ w'.heap[k]? = w.heap[k]?) : LgB G w' g dp v fr tt sz := by
  obtain ⟨la, ln, lc, h1, h2⟩ := h
  exact ⟨la, ln, lc, hg.trans h1, h2.keep hf⟩
theorem LgB.lt {F : Nat → Prop} {w : World} {g : Nat} {dp : Value} {v : Wv} {fr tt sz : Nat} (h : LgB F w g dp v fr tt sz) : g < w.heap.size := by
  obtain ⟨la, ln, lc, h1, h2⟩ := h
  exact (Array.getElem?_eq_some_iff.1 h1).1
theorem LgB.below {F : Nat → Prop} {w w' : World} {g : Nat} {dp : Value} {v : Wv} {fr tt sz : Nat} (h : LgB F w g dp v fr tt sz) (hx : Ext w w') : LgB F w' g dp v fr tt sz := h.keep (hx.block g h.lt) fun k hk hl => ⟨hk, hx.block k hl⟩
theorem LgB.vw {F : Nat → Prop} {w : World} {g : Nat} {dp : Value} {v : Wv} {fr tt sz m : Nat} (h : LgB F w g dp v fr tt sz) (hf : v.Fine m) (hm : m ≤ 100000000) : ∃ la ln lc, VwAt F w g v la ln lc ∧ Soft w g := by
  obtain ⟨la, ln, lc, h1, h2⟩ := h
  obtain ⟨⟨c0, c1, c2, c3, c4, -⟩, hfz, hl⟩ := cells9 h1
  exact ⟨la, ln, lc, ⟨c0, c1, c2, c3, c4, h2, hf.i64, ⟨by have := hf.big; omega, hf.big.2⟩, Nat.le_trans hf.many hm⟩, hl, fun j _ => hfz j⟩
theorem Wv.Fine.le {v : Wv} {m n : Nat} (h : v.Fine m) (hm : m ≤ n) : v.Fine n := ⟨h.i64, h.big, Nat.le_trans h.many hm, h.len⟩
def TakeLg (F : Nat → Prop) (g : Nat) (dp : Value) (fr tt sz : Nat) (r : Option Wv) (w : World) (e : Ending) (w' : World) : Prop :=
  (r = none ∧ e = .returned (.bool false) ∧ Ext w w') ∨
  (∃ v', r = some v' ∧ e = .returned (.bool true) ∧ LgB (fun q => F q ∨ (w.heap.size ≤ q ∧ q < w'.heap.size)) w' g dp v' fr tt sz ∧ Frm (fun q => q = g) w w')
theorem take_lg {F G : Nat → Prop} {w : World} {g : Nat} {dp : Value} {v : Wv} {fr tt sz m : Nat} (h : LgB F w g dp v fr tt sz) (hf : v.Fine m) (hm : m ≤ 100000000) (hF : ¬ F g) {ba : Option Addr} {bn bc : Nat} {b : By} (hb : ByF G w ba bn bc b) (hbn : bn ≤ 1000000000) :
    Calls Tryz.prog 137 #[.pointer (some ⟨g, 0, none⟩), .slice ba bn bc] w (TakeLg F g dp fr tt sz (v.take b) w) := by
  obtain ⟨la, ln, lc, h1, h2⟩ := h.vw hf hm
  obtain ⟨la0, ln0, lc0, hobj, -⟩ := h
  refine (take_any h1 h2 hb hbn).mono ?_
  rintro e w' (⟨hn, he, hx⟩ | ⟨v', hv, he, w2, a', n', c', hx, hes, rfl⟩)
  · exact .inl ⟨hn, he, hx⟩
  refine .inr ⟨v', hv, he, ?_, ?_⟩
  · have hg2 := (hx.block g h2.1).trans hobj
    have hS := nine_set hg2 v' a' n' c'
    refine ⟨a', n', c', hS.obj, hes.keep fun k hk hl => ⟨?_, hS.frm.block k hl ?_⟩⟩
    · rcases hk with hk | hk
      · exact .inl hk
      exact .inr ⟨hk.1, by have := hS.size; omega⟩
    intro e
    have e : k = g := e
    subst e
    rcases hk with hk | hk
    · exact hF hk
    have := h2.1; omega
  exact Frm.after_ext hx (nine_set ((hx.block g h2.1).trans hobj) v' a' n' c').frm
theorem bs_head {F : Nat → Prop} {w : World} {a : Option Addr} {n c : Nat} {L : List By} (h : BsF F w a n c L) (u : Nat) (hu : u ≤ n) :
    ∃ a' m k, (∀ W, (Instr.slice 23 (.slice a n c) none (some (.int .i64 (u : Int))) none).run Tryz.prog W = .ok (.slice a' m k) W) ∧
      (∀ W, (Instr.sliceAt 23 (.slice a n c) none (some (.int .i64 (u : Int))) none).run Tryz.prog W = .ok (.slice a' m k) W) ∧ BsF F w a' m k (L.take u) := by
  obtain ⟨h1, h2, h3, h4, h5⟩ := h
  have hr : ∀ W, (Instr.slice 23 (.slice a n c) none (some (.int .i64 (u : Int))) none).run Tryz.prog W = .ok (sliced a 0 u c 1) W := fun W => by
    rw [run_slice_h W 23 a n c under_sl .i64 u (by omega) (by omega), elem_sl]
    rfl
  refine ⟨_, _, _, hr, fun W => (run_sliceAt_slice W _ _ _ _ _ under_sl).trans (hr W), ?_⟩
  refine ⟨by rw [List.length_take]; omega, by omega, ⟨by omega, by omega⟩, fun e => ?_, fun p hp => ?_⟩
  · split at e
    · omega
    cases a with
    | none => have := h4 rfl; omega
    | some p => cases e
  split at hp
  · rename_i e
    refine ⟨fun hc => by omega, fun k hk => by rw [List.length_take] at hk; omega⟩
  cases a with
  | none => cases hp
  | some q =>
    obtain ⟨h6, h7⟩ := h5 q rfl
    obtain ⟨qb, qo, qs⟩ := q
    obtain rfl : qs = none := h6 (by omega)
    cases hp
    refine ⟨fun hc => rfl, fun k hk => ?_⟩
    rw [List.length_take] at hk
    obtain ⟨f, a', n', c', e1, e2⟩ := h7 k (by omega)
    refine ⟨f, a', n', c', ?_, ?_⟩
    · rw [← e1]
      show w.cell? ⟨qb, qo + 0 * 1 + k, none⟩ = w.cell? ⟨qb, qo + k, none⟩
      rw [show qo + 0 * 1 + k = qo + k by omega]
    have hg : (L.take u)[k]'(by rw [List.length_take]; omega) = L[k]'(by omega) := List.getElem_take
    rw [hg]; exact e2
end Go.Proofs.YtikjckdoldiddaaGreatDoor
