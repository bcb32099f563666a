/- States, plain and in memory; the walks of voters and Check. -/
import Derived.Test.YtjapeaoebjmpnaaGreatDoorB07
import Derived.Deep.RegionWith
import Derived.Lib.ItoaNum
namespace Go.Proofs.YtjapeaoebjmpnaaGreatDoor
open Go.RowKit Go.Maps
set_option linter.unusedVariables false
set_option linter.unusedSimpArgs false
attribute [local go_sem] bmax2 bmin2 bmax_two bmin_two

/-- A state. -/
structure Sn where
  i : Int
  t : Int
  vs : List Int
  d : By
def votG : Int → List Int → Bool
  | _, [] => true
  | p, x :: r => decide (p < x ∧ x ≤ 6) && votG x r
def votersB (l : List Int) : Bool := votG (-1) l && !l.isEmpty
def checkS (s : Sn) : Int :=
  if s.i < 1 ∨ 1099511627776 < s.i ∨ s.t < 1 ∨ 1099511627776 < s.t ∨ votersB s.vs = false then 60 else if 262144 < s.d.length then 4 else 0

/-- Ints that lie in memory. -/
def IsF (F : Nat → Prop) (w : World) (a : Option Addr) (n c : Nat) (l : List Int) : Prop :=
  n = l.length ∧ n ≤ c ∧ (c ≤ maxLen ∧ n * 8 ≤ 140737488351232) ∧ (a = none → c = 0) ∧ (∀ x ∈ l, In64 x) ∧
  ∀ p, a = some p → (0 < c → p.spot = none) ∧ ∀ k, (h : k < l.length) → F p.block ∧ w.cell? ⟨p.block, p.off + k, none⟩ = some (.int .i64 l[k])
theorem IsF.keep {F G : Nat → Prop} {w w' : World} {a : Option Addr} {n c : Nat} {l : List Int} (h : IsF F w a n c l) (hf : ∀ k, F k → k < w.heap.size → G k ∧ w'.heap[k]? = w.heap[k]?) : IsF G w' a n c l := by
  obtain ⟨h1, h2, h3, h4, h45, h5⟩ := h
  refine ⟨h1, h2, h3, h4, h45, fun p hp => ⟨(h5 p hp).1, fun k hk => ?_⟩⟩
  obtain ⟨h7, h9⟩ := (h5 p hp).2 k hk
  obtain ⟨hg, he⟩ := hf p.block h7 (World.block_lt_of_cell? w ⟨p.block, p.off + k, none⟩ h9)
  exact ⟨hg, (World.cell?_of_block (w := w) (a := ⟨p.block, p.off + k, none⟩) he).trans h9⟩
theorem IsF.below {F : Nat → Prop} {w w' : World} {a : Option Addr} {n c : Nat} {l : List Int} (h : IsF F w a n c l) (hx : Ext w w') : IsF F w' a n c l := h.keep fun k hk hl => ⟨hk, hx.block k hl⟩
theorem IsF.more {F G : Nat → Prop} {w : World} {a : Option Addr} {n c : Nat} {l : List Int} (h : IsF F w a n c l) (hg : ∀ k, F k → G k) : IsF G w a n c l := h.keep fun k hk _ => ⟨hg k hk, rfl⟩
theorem IsF.nil_ (F : Nat → Prop) (w : World) : IsF F w none 0 0 [] := ⟨rfl, by simp, by simp, fun _ => rfl, by simp, fun p hp => by cases hp⟩
theorem IsF.at_ {F : Nat → Prop} {w : World} {a : Option Addr} {n c : Nat} {l : List Int} (h : IsF F w a n c l) {k : Nat} (hk : k < n) :
    ∃ b o, a = some ⟨b, o, none⟩ ∧ b < w.heap.size ∧ ∃ hl : k < l.length, w.cell? ⟨b, o + k, none⟩ = some (.int .i64 l[k]) ∧ In64 l[k] := by
  obtain ⟨rfl, h2, h3, h4, h45, h5⟩ := h
  cases a with
  | none => have := h4 rfl; omega
  | some p =>
    obtain ⟨b, o, s⟩ := p
    have hs : s = none := (h5 _ rfl).1 (by omega)
    subst hs
    obtain ⟨h6, h7⟩ := (h5 _ rfl).2 k hk
    exact ⟨b, o, rfl, World.block_lt_of_cell? w _ h7, hk, h7, h45 _ (List.getElem_mem _)⟩
/-- A state that lies in memory. -/
def SnV (F : Nat → Prop) (w : World) (v : Value) (s : Sn) : Prop :=
  ∃ va vn vc da dn dc, v = .agg #[.int .i64 s.i, .int .i64 s.t, .slice va vn vc, .slice da dn dc] ∧ In64 s.i ∧ In64 s.t ∧ IsF F w va vn vc s.vs ∧ ByF F w da dn dc s.d
theorem SnV.keep {F G : Nat → Prop} {w w' : World} {v : Value} {s : Sn} (h : SnV F w v s) (hf : ∀ k, F k → k < w.heap.size → G k ∧ w'.heap[k]? = w.heap[k]?) : SnV G w' v s := by
  obtain ⟨va, vn, vc, da, dn, dc, h1, h2, h3, h4, h5⟩ := h
  exact ⟨va, vn, vc, da, dn, dc, h1, h2, h3, h4.keep hf, h5.keep hf⟩
theorem SnV.below {F : Nat → Prop} {w w' : World} {v : Value} {s : Sn} (h : SnV F w v s) (hx : Ext w w') : SnV F w' v s := h.keep fun k hk hl => ⟨hk, hx.block k hl⟩
theorem SnV.more {F G : Nat → Prop} {w : World} {v : Value} {s : Sn} (h : SnV F w v s) (hg : ∀ k, F k → G k) : SnV G w v s := h.keep fun k hk _ => ⟨hg k hk, rfl⟩

set_option maxHeartbeats 2000000 in
theorem voters_any {F : Nat → Prop} {w : World} {a : Option Addr} {n c : Nat} {l : List Int} (h : IsF F w a n c l) :
    Calls Tryz.prog 43 #[.slice a n c] w (fun e w' => e = .returned (.bool (votersB l)) ∧ w' = w) := by
  have hnl := h.1
  have hn8 := h.2.2.1.2
  have HB := hid h
  have HN := hid hnl
  obtain ⟨R, hR⟩ : ∃ R, R = votersB l := ⟨_, rfl⟩
  rw [← hR]
  have HR := hid hR
  clear h hnl hR
  go_enter Tryz.func43, Tryz.ntmps43
  go_wp2
  go_loop [3, 4, 7] (fun _ _ z => ∃ (k : Nat) (p : Int), k ≤ n ∧ z = .int .i64 k ∧ Hid (R = (votG p (l.drop k) && !l.isEmpty)) ∧ -1 ≤ p ∧ (k = 0 → p = -1) ∧ (0 < k → 0 ≤ p ∧ Hid (∀ (h : k - 1 < l.length), l[k - 1] = p))) (fun _ _ z => n - (intOf z).toNat)
  case atStart => exact ⟨0, -1, Nat.zero_le _, rfl, HR.out, by omega, fun _ => rfl, fun h => by omega⟩
  obtain ⟨k, p, hk, rfl, HQ, hp, hp0, hp1⟩ := hrel
  by_cases hlt : k < n
  · obtain ⟨b, o, rfl, hbl, hkl, q, hin⟩ := HB.out.at_ hlt
    have hd : l.drop k = l[k] :: l.drop (k + 1) := List.drop_eq_getElem_cons hkl
    obtain ⟨x, hx⟩ : ∃ x, x = l[k] := ⟨_, rfl⟩
    rw [← hx] at hd q hin
    have hlast : ∀ (h : (k + 1) - 1 < l.length), l[(k + 1) - 1] = x := fun h => hx.symm
    obtain ⟨hin1, hin2⟩ := hin
    have hq := HQ.out
    rw [hd] at hq
    have HL := hid hlast
    have HD := hid (show R = (decide (p < x ∧ x ≤ 6) && votG x (l.drop (k + 1)) && !l.isEmpty) from hq)
    clear hd hlast hx hq HQ
    rcases Nat.eq_zero_or_pos k with hk0 | hk0
    · subst hk0
      have hpe := hp0 rfl
      subst hpe
      rw [Nat.add_zero] at q
      clear hp0 hp1
      by_cases hx : (-1 : Int) < x ∧ x ≤ 6
      · obtain ⟨hx1, hx2⟩ := hx
        have HD2 := hid (show R = (votG x (l.drop (0 + 1)) && !l.isEmpty) by rw [HD.out, decide_eq_true (⟨hx1, hx2⟩ : (-1 : Int) < x ∧ x ≤ 6), Bool.true_and])
        go_wp2
        refine ⟨⟨0 + 1, x, by omega, by go_num, HD2, by omega, fun h => by omega, fun _ => ⟨by omega, HL⟩⟩, ?_⟩
        simp [intOf]; omega
      have HD2 := hid (show R = false by rw [HD.out, decide_eq_false hx, Bool.false_and, Bool.false_and])
      by_cases hx1 : x < 0
      · clear hx
        go_wp2
        go_ret
        exact ⟨by rw [HD2.out]; rfl, rfl⟩
      have hx2 : 7 ≤ x := by omega
      clear hx
      go_wp2
      go_ret
      exact ⟨by rw [HD2.out]; rfl, rfl⟩
    obtain ⟨b2, o2, e2, -, hk2, q2, -⟩ := HB.out.at_ (k := k - 1) (by omega)
    injection e2 with e2
    injection e2 with e3 e4
    subst e3; subst e4
    rw [(hp1 hk0).2.out hk2] at q2
    have hp2 := (hp1 hk0).1
    have hsub : (k : Int) - 1 = ((k - 1 : Nat) : Int) := by omega
    obtain ⟨k1, hk1⟩ : ∃ k1, k1 = k - 1 := ⟨_, rfl⟩
    rw [← hk1] at q2 hsub
    have hk1n : k1 < n := by omega
    clear hp0 hp1 hk1
    by_cases hx : p < x ∧ x ≤ 6
    · obtain ⟨hx1, hx2⟩ := hx
      have HD2 := hid (show R = (votG x (l.drop (k + 1)) && !l.isEmpty) by rw [HD.out, decide_eq_true (⟨hx1, hx2⟩ : p < x ∧ x ≤ 6), Bool.true_and])
      go_wp2
      refine ⟨⟨k + 1, x, by omega, by go_num, HD2, by omega, fun h => by omega, fun _ => ⟨by omega, HL⟩⟩, ?_⟩
      simp [intOf]; omega
    have HD2 := hid (show R = false by rw [HD.out, decide_eq_false hx, Bool.false_and, Bool.false_and])
    by_cases hx1 : x < 0
    · clear hx
      go_wp2
      go_ret
      exact ⟨by rw [HD2.out]; rfl, rfl⟩
    by_cases hx2 : 7 ≤ x
    · clear hx
      go_wp2
      go_ret
      exact ⟨by rw [HD2.out]; rfl, rfl⟩
    have hx3 : x ≤ p := by omega
    clear hx
    go_wp2
    go_ret
    exact ⟨by rw [HD2.out]; rfl, rfl⟩
  obtain rfl : k = n := by omega
  have hq := HQ.out
  rw [List.drop_of_length_le (by rw [HN.out]; exact Nat.le_refl _)] at hq
  have HQ2 := hid (show R = decide (0 < k) by
    rw [hq, HN.out]
    show (true && !l.isEmpty) = _
    cases l <;> simp)
  clear hq HQ
  go_wp2
  go_ret
  refine ⟨?_, rfl⟩
  rw [HQ2.out]
  simp

set_option maxHeartbeats 2000000 in
theorem Check_any {F : Nat → Prop} {w : World} {v : Value} {s : Sn} (h : SnV F w v s) :
    Calls Tryz.prog 12 #[v] w (fun e w' => e = .returned (.int .i64 (checkS s)) ∧ Ext w w') := by
  obtain ⟨va, vn, vc, da, dn, dc, rfl, hi, ht, hv, hd⟩ := h
  have HV := hid (fun W (hW : Ext w W) => voters_any (hv.below hW))
  have hdn := hd.1
  obtain ⟨R, hR⟩ : ∃ R, R = checkS s := ⟨_, rfl⟩
  rw [← hR]
  unfold checkS at hR
  rw [← hdn] at hR
  have HR := hid hR
  obtain ⟨i, t, vs, d⟩ := s
  dsimp only at *
  obtain ⟨vb, hvb⟩ : ∃ vb, vb = votersB vs := ⟨_, rfl⟩
  rw [← hvb] at HV HR
  obtain ⟨hi1, hi2⟩ := hi
  obtain ⟨ht1, ht2⟩ := ht
  have hdl := hd.2.2.1.2
  clear hR hv hd hdn hvb
  go_enter Tryz.func12, Tryz.ntmps12
  by_cases h1 : i < 1 ∨ 1099511627776 < i ∨ t < 1 ∨ 1099511627776 < t
  · have HR2 := hid (show R = 60 by rw [HR.out, if_pos (by omega)])
    rcases h1 with h1 | h1 | h1 | h1
    · go_wp2
      go_ret
      exact ⟨by rw [HR2.out]; rfl, ext_alloc _ _⟩
    · go_wp2
      go_ret
      exact ⟨by rw [HR2.out]; rfl, ext_alloc _ _⟩
    · by_cases h2 : i < 1
      · go_wp2
        go_ret
        exact ⟨by rw [HR2.out]; rfl, ext_alloc _ _⟩
      by_cases h3 : 1099511627776 < i
      · go_wp2
        go_ret
        exact ⟨by rw [HR2.out]; rfl, ext_alloc _ _⟩
      go_wp2
      go_ret
      exact ⟨by rw [HR2.out]; rfl, ext_alloc _ _⟩
    by_cases h2 : i < 1
    · go_wp2
      go_ret
      exact ⟨by rw [HR2.out]; rfl, ext_alloc _ _⟩
    by_cases h3 : 1099511627776 < i
    · go_wp2
      go_ret
      exact ⟨by rw [HR2.out]; rfl, ext_alloc _ _⟩
    go_wp2
    go_ret
    exact ⟨by rw [HR2.out]; rfl, ext_alloc _ _⟩
  have g1 : 1 ≤ i := by omega
  have g2 : i ≤ 1099511627776 := by omega
  have g3 : 1 ≤ t := by omega
  have g4 : t ≤ 1099511627776 := by omega
  cases vb with
  | false =>
    have HR2 := hid (show R = 60 by rw [HR.out, if_pos (by simp)])
    clear h1
    go_wp2_with (go_at_call 43; refine Calls.mono (HV.out _ (ext_alloc _ _)) ?_; rintro e w1 ⟨rfl, rfl⟩)
    go_ret
    exact ⟨by rw [HR2.out]; rfl, ext_alloc _ _⟩
  | true =>
    by_cases hl : 262144 < dn
    · have HR2 := hid (show R = 4 by rw [HR.out, if_neg (by simp; omega), if_pos hl])
      clear h1
      go_wp2_with (go_at_call 43; refine Calls.mono (HV.out _ (ext_alloc _ _)) ?_; rintro e w1 ⟨rfl, rfl⟩)
      go_ret
      exact ⟨by rw [HR2.out]; rfl, ext_alloc _ _⟩
    have HR2 := hid (show R = 0 by rw [HR.out, if_neg (by simp; omega), if_neg hl])
    clear h1
    go_wp2_with (go_at_call 43; refine Calls.mono (HV.out _ (ext_alloc _ _)) ?_; rintro e w1 ⟨rfl, rfl⟩)
    go_ret
    exact ⟨by rw [HR2.out]; rfl, ext_alloc _ _⟩
end Go.Proofs.YtjapeaoebjmpnaaGreatDoor

/- The walks of name, slices.Clone at ints, and copied. -/
namespace Go.Proofs.YtjapeaoebjmpnaaGreatDoor
open Go.RowKit Go.Maps
set_option linter.unusedVariables false
set_option linter.unusedSimpArgs false
attribute [local go_sem] bmax2 bmin2 bmax_two bmin_two

/-! ### the table of powers -/
noncomputable def powG : Nat := (Tryz.prog.globalNamed "internal/strconv.uint64pow10").getD 0
theorem powG_eq : Tryz.prog.globalNamed "internal/strconv.uint64pow10" = some powG := by kernel_rfl
def TabP (w : World) : Prop := Lib.TabIs Tryz.prog w "internal/strconv.uint64pow10" .u64 Lib.pow10Tab
theorem TabP.lt {w : World} (h : TabP w) : powG < w.heap.size := by
  unfold TabP Lib.TabIs World.var? at h
  rw [powG_eq] at h
  simp only [Option.bind_some] at h
  rcases Nat.lt_or_ge powG w.heap.size with h' | h'
  · exact h'
  rw [Array.getElem?_eq_none h'] at h; cases h
theorem TabP.keep {w w' : World} (h : TabP w) (hk : w'.heap[powG]? = w.heap[powG]?) : TabP w' := by
  unfold TabP Lib.TabIs World.var? at h ⊢
  rw [powG_eq] at h ⊢
  simp only [Option.bind_some] at h ⊢
  rw [hk]; exact h
theorem TabP.ext {w w' : World} (h : TabP w) (hx : Ext w w') : TabP w' := h.keep (hx.block _ h.lt)
theorem TabP.frm {D : Nat → Prop} {w w' : World} (h : TabP w) (hf : Frm D w w') (hD : ¬ D powG) : TabP w' := h.keep (hf.block _ h.lt hD)

/-! ### name -/
def nameB (i : Int) : Nm := [115, 110, 97, 112, 46] ++ Lib.repeatL [48] (13 - (Lib.itoa i).length) ++ Lib.itoa i
theorem itoa_len {i : Int} (h0 : 0 ≤ i) (h1 : i ≤ 1099511627776) : 1 ≤ (Lib.itoa i).length ∧ (Lib.itoa i).length ≤ 13 := by
  unfold Lib.itoa
  rw [if_neg (by omega), Lib.decDigits_length]
  refine ⟨Lib.nDigits_pos _, ?_⟩
  have hle : ∀ (k u : Nat), u < 10 ^ (k + 1) → Lib.nDigits u ≤ k + 1 := by
    intro k
    induction k with
    | zero => intro u hu; rw [Lib.nDigits_small (by simpa using hu)]; omega
    | succ k ih =>
      intro u hu
      by_cases hs : u < 10
      · rw [Lib.nDigits_small hs]; omega
      rw [Lib.nDigits_big hs]
      have := ih (u / 10) (by rw [Nat.div_lt_iff_lt_mul (by omega)]; rw [Nat.pow_succ] at hu; exact hu)
      omega
  exact hle 12 _ (by have : (10 : Nat) ^ (12 + 1) = 10000000000000 := by decide
                     omega)
theorem nameB_len {i : Int} (h0 : 0 ≤ i) (h1 : i ≤ 1099511627776) : (nameB i).length = 18 := by
  have := itoa_len h0 h1
  unfold nameB
  rw [List.length_append, List.length_append, Lib.repeatL_length]
  simp; omega
theorem ext_grow (w : World) (k : Nat) (os : Array Obj) : Ext w (Go.Sort.grow (w.drewN k) os) := by
  refine ⟨rfl, rfl, rfl, by simp [Go.Sort.grow, World.drewN], fun q hq => ?_⟩
  show (w.heap ++ os)[q]? = w.heap[q]?
  rw [Array.getElem?_append_left hq]

set_option maxHeartbeats 1000000 in
theorem name_any {w : World} (hT : TabP w) {i : Int} (h0 : 0 ≤ i) (h1 : i ≤ 1099511627776) :
    Calls Tryz.prog 51 #[.int .i64 i] w (fun e w' => e = .returned (.string ⟨(nameB i).toArray⟩) ∧ Ext w w') := by
  have hI := Tryz.strconv_Itoa i (by omega) (by omega) w hT
  obtain ⟨hl1, hl2⟩ := itoa_len h0 h1
  obtain ⟨t, ht⟩ : ∃ t, t = Lib.itoa i := ⟨_, rfl⟩
  rw [← ht] at hI hl1 hl2
  have hnb : nameB i = [115, 110, 97, 112, 46] ++ Lib.repeatL [48] (13 - t.length) ++ t := by rw [ht]; rfl
  obtain ⟨z, hz⟩ : ∃ z, z = 13 - t.length := ⟨_, rfl⟩
  rw [← hz] at hnb
  have hR := fun W => Tryz.strings_Repeat ⟨#[48]⟩ z W (by omega) (by simp [ByteArray.size]; omega)
  have hsub : (13 : Int) - (t.length : Int) = (z : Int) := by omega
  obtain ⟨rz, hrz⟩ : ∃ rz, rz = Lib.repeatL [48] z := ⟨_, rfl⟩
  have hrzl : rz.length = z := by rw [hrz, Lib.repeatL_length]; simp
  have hR2 : ∀ W, Calls Tryz.prog 89 #[.string ⟨#[48]⟩, .int .i64 z] W fun e w' => e = .returned (.string ⟨rz.toArray⟩) ∧ Below W.heap.size W w' := fun W => by rw [hrz]; exact hR W
  rw [← hrz] at hnb
  obtain ⟨L1, hL1⟩ : ∃ L1 : Nm, L1 = [115, 110, 97, 112, 46] ++ rz := ⟨_, rfl⟩
  obtain ⟨L2, hL2⟩ : ∃ L2 : Nm, L2 = L1 ++ t := ⟨_, rfl⟩
  have hl1l : L1.length = 5 + z := by rw [hL1, List.length_append, hrzl]; rfl
  have hadd1 : ∀ W, (Op.stringOp .add ⟨#[115, 110, 97, 112, 46]⟩ ⟨rz.toArray⟩).run Tryz.prog W = .ok (.string ⟨L1.toArray⟩) W := fun W => by
    rw [hL1]
    exact run_string_add_lists W [115, 110, 97, 112, 46] rz (by simp) (by omega)
  have hadd2 : ∀ W, (Op.stringOp .add ⟨L1.toArray⟩ ⟨t.toArray⟩).run Tryz.prog W = .ok (.string ⟨L2.toArray⟩) W := fun W => by
    rw [hL2]
    exact run_string_add_lists W L1 t (by omega) (by omega)
  rw [← hL1, ← hL2] at hnb
  have HI := hid hI
  have HR := hid hR2
  clear hR2 hrz hrzl hL1 hL2 hl1l
  have HNB := hid hnb
  clear hI hR hnb ht hz
  go_enter Tryz.func51, Tryz.ntmps51
  go_wp2_with fail
  refine Calls.mono HI.out ?_
  rintro e w1 ⟨rfl, k, os, hw1⟩
  have HX1 := hid (show Ext w w1 by rw [hw1]; exact ext_grow w k os)
  clear hw1
  go_wp2_with fail
  refine Calls.mono (HR.out w1) ?_
  rintro e w2 ⟨rfl, hx2⟩
  go_wp2
  go_ret
  exact ⟨by rw [HNB.out]; rfl, HX1.out.trans' hx2⟩

/-! ### copies of ints -/
theorem cloneI_any {F : Nat → Prop} {w : World} {a : Option Addr} {n c : Nat} {l : List Int} (h : IsF F w a n c l) :
    Calls Tryz.prog 44 #[.slice a n c] w (fun e w' => ∃ a' n' c', e = .returned (.slice a' n' c') ∧ IsF (fun q => w.heap.size ≤ q ∧ q < w'.heap.size) w' a' n' c' l ∧ Ext w w') := by
  have own : ∀ {w' : World} {v : Value}, w'.ownsRow w.heap.size 3 1 v n (l.map (Value.int .i64)) → ∃ a' n' c', v = .slice a' n' c' ∧ IsF (fun q => w.heap.size ≤ q ∧ q < w'.heap.size) w' a' n' c' l := by
    intro w' v ho
    rcases ho.2 with ⟨e1, e2⟩ | ⟨g, cap, cur, e1, e2, e3, e4, e5, e6, e7⟩
    · have : l = [] := List.eq_nil_of_length_eq_zero (by rw [← h.1, e2])
      subst this
      exact ⟨none, 0, 0, e1, IsF.nil_ _ _⟩
    refine ⟨some ⟨g, 0, none⟩, n, cap, e1, h.1, e4, ⟨e5, h.2.2.1.2⟩, (fun e => by cases e), h.2.2.2.2.1, fun p hp => ?_⟩
    cases hp
    refine ⟨fun _ => rfl, fun k hk => ⟨⟨e2, (Array.getElem?_eq_some_iff.1 e3).1⟩, ?_⟩⟩
    have hq := congrArg (fun l => l[k]?) e7
    simp only [List.getElem?_take, Nat.mul_one] at hq
    rw [if_pos (by rw [h.1]; exact hk), List.getElem?_map, List.getElem?_eq_getElem hk] at hq
    unfold World.cell?
    simp only [e3, Nat.zero_add]
    simpa [Array.getElem?_toList] using hq
  cases a with
  | none =>
    have hn : n = 0 := by have := h.2.2.2.1 rfl; have := h.2.1; omega
    have : l = [] := List.eq_nil_of_length_eq_zero (by rw [← h.1, hn])
    subst this
    refine (Tryz.slices_Clone_int_nil n c w).mono ?_
    rintro e w' ⟨rfl, rfl⟩
    exact ⟨none, 0, 0, rfl, IsF.nil_ _ _, Below.refl _ _⟩
  | some p =>
    by_cases hn : n = 0
    · subst hn
      have : l = [] := List.eq_nil_of_length_eq_zero h.1.symm
      subst this
      refine (Tryz.slices_Clone_int_zero p c w).mono ?_
      rintro e w' ⟨v, rfl, ho, -, hx⟩
      obtain ⟨a', n', c', rfl, hi⟩ := own ho
      exact ⟨a', n', c', rfl, hi, hx⟩
    obtain ⟨b, o, e, hbl, -⟩ := h.at_ (k := 0) (by omega)
    cases e
    refine (Tryz.slices_Clone_int b o n c l w (by rw [h.1]; exact Nat.le_refl _) (by have := h.2.2.1.2; omega) fun j hj => ?_).mono ?_
    · rw [List.getD_eq_getElem?_getD, List.getElem?_eq_getElem hj]
      exact ((h.2.2.2.2.2 _ rfl).2 j hj).2
    rintro e w' ⟨v, rfl, ho, -, hx⟩
    rw [List.take_of_length_le (by rw [h.1]; exact Nat.le_refl _)] at ho
    obtain ⟨a', n', c', rfl, hi⟩ := own ho
    exact ⟨a', n', c', rfl, hi, hx⟩
end Go.Proofs.YtjapeaoebjmpnaaGreatDoor

/- The walk of copied. -/
namespace Go.Proofs.YtjapeaoebjmpnaaGreatDoor
open Go.RowKit Go.Maps
set_option linter.unusedVariables false
set_option linter.unusedSimpArgs false
attribute [local go_sem] bmax2 bmin2 bmax_two bmin_two

/-- slices.Clone at bytes that may be nil. -/
theorem cloneB_any {F : Nat → Prop} {a : Option Addr} {n c : Nat} {d : By} {w : World} (hd : ByF F w a n c d) :
    Calls Tryz.prog 40 #[.slice a n c] w (fun e w' => ∃ a' n' c', e = .returned (.slice a' n' c') ∧ ByF (fun q => w.heap.size ≤ q ∧ q < w'.heap.size) w' a' n' c' d ∧ Ext w w') := by
  cases a with
  | none =>
    have hc : c = 0 := hd.2.2.2.1 rfl
    have hn : n = 0 := by have := hd.2.1; omega
    subst hc; subst hn
    have : d = [] := List.eq_nil_of_length_eq_zero hd.1.symm
    subst this
    refine (cloneB_none w).mono ?_
    rintro e w' ⟨rfl, rfl⟩
    exact ⟨none, 0, 0, rfl, ByF.nil_ _ _, Below.refl _ _⟩
  | some p =>
    refine (cloneB_some hd).mono ?_
    rintro e w' ⟨v, rfl, ho, hx⟩
    obtain ⟨g, c', rfl⟩ := ho.form
    exact ⟨_, _, _, rfl, ho.by_ hd.2.2.1.2, hx⟩

theorem four_set {W : World} {b : Nat} {y0 y1 y2 y3 : Value} {t : TypeId} (h : W.heap[b]? = some (.cells #[y0, y1, y2, y3] t (0, 0))) (x0 x1 x2 x3 : Value) :
    ((((W.setCell ⟨b, 0, none⟩ x0).setCell ⟨b, 1, none⟩ x1).setCell ⟨b, 2, none⟩ x2).setCell ⟨b, 3, none⟩ x3).heap[b]? = some (.cells #[x0, x1, x2, x3] t (0, 0)) ∧
    (∀ q, q ≠ b → ((((W.setCell ⟨b, 0, none⟩ x0).setCell ⟨b, 1, none⟩ x1).setCell ⟨b, 2, none⟩ x2).setCell ⟨b, 3, none⟩ x3).heap[q]? = W.heap[q]?) ∧
    ((((W.setCell ⟨b, 0, none⟩ x0).setCell ⟨b, 1, none⟩ x1).setCell ⟨b, 2, none⟩ x2).setCell ⟨b, 3, none⟩ x3).heap.size = W.heap.size ∧
    ∀ B, B ≤ b → Below B W ((((W.setCell ⟨b, 0, none⟩ x0).setCell ⟨b, 1, none⟩ x1).setCell ⟨b, 2, none⟩ x2).setCell ⟨b, 3, none⟩ x3) := by
  refine ⟨?_, fun q hq => ?_, by simp [World.setCell], fun B hB => ((((Below.refl _ _).setCell hB _).setCell hB _).setCell hB _).setCell hB _⟩
  · exact heap_setCell_same _ b 3 _ _ _ (heap_setCell_same _ b 2 _ _ _ (heap_setCell_same _ b 1 _ _ _ (heap_setCell_same _ b 0 _ _ _ h)))
  rw [heap_setCell_other _ _ _ _ hq, heap_setCell_other _ _ _ _ hq, heap_setCell_other _ _ _ _ hq, heap_setCell_other _ _ _ _ hq]

set_option maxHeartbeats 4000000 in
theorem copied_sn {F : Nat → Prop} {w : World} {v : Value} {s : Sn} (h : SnV F w v s) :
    Calls Tryz.prog 52 #[v] w (fun e w' => ∃ v', e = .returned v' ∧ SnV (fun q => w.heap.size ≤ q ∧ q < w'.heap.size) w' v' s ∧ Ext w w') := by
  obtain ⟨va, vn, vc, da, dn, dc, rfl, hi, ht, hv, hd⟩ := h
  have HV := hid (fun W (hW : Ext w W) => cloneI_any (hv.below hW))
  have HD := hid (fun W (hW : Ext w W) => cloneB_any (hd.below hW))
  have HIT := hid (show In64 s.i ∧ In64 s.t from ⟨hi, ht⟩)
  clear hv hd hi ht
  go_enter Tryz.func52, Tryz.ntmps52
  go_wp2
  obtain ⟨i, t, vs, d⟩ := s
  dsimp only at *
  generalize hW0 : (w.alloc (.cells #[.int .i64 i, .int .i64 t, .slice va vn vc, .slice da dn dc] 25)).alloc (.cells #[.int .i64 0, .int .i64 0, .slice none 0 0, .slice none 0 0] 25) = W0
  have hx0 : Ext w W0 := by rw [← hW0]; exact (ext_alloc _ _).trans' (ext_alloc _ _)
  have hz0 : W0.heap.size = w.heap.size + 2 := by rw [← hW0]; simp
  have hq1 : W0.heap[w.heap.size]? = some (.cells #[.int .i64 i, .int .i64 t, .slice va vn vc, .slice da dn dc] 25 (0, 0)) := by rw [← hW0]; exact heap_alloc2_old _ _ _
  have hq2 : W0.heap[w.heap.size + 1]? = some (.cells #[.int .i64 0, .int .i64 0, .slice none 0 0, .slice none 0 0] 25 (0, 0)) := by rw [← hW0]; exact heap_alloc2_new _ _ _
  have facts : ∀ W, Ext W0 W → (W.heap[w.heap.size]? = some (.cells #[.int .i64 i, .int .i64 t, .slice va vn vc, .slice da dn dc] 25 (0, 0)) ∧ W.heap[w.heap.size + 1]? = some (.cells #[.int .i64 0, .int .i64 0, .slice none 0 0, .slice none 0 0] 25 (0, 0))) := fun W hW =>
    ⟨(hW.block _ (by omega)).trans hq1, (hW.block _ (by omega)).trans hq2⟩
  have cells : ∀ W, Ext W0 W → (W.cell? ⟨w.heap.size, 0, none⟩ = some (.int .i64 i) ∧ W.cell? ⟨w.heap.size, 1, none⟩ = some (.int .i64 t) ∧ W.cell? ⟨w.heap.size, 2, none⟩ = some (.slice va vn vc) ∧ W.cell? ⟨w.heap.size, 3, none⟩ = some (.slice da dn dc) ∧
      W.frozen? ⟨w.heap.size, 2, none⟩ = false ∧ W.frozen? ⟨w.heap.size, 3, none⟩ = false ∧ w.heap.size < W.heap.size) := fun W hW => by
    have h1 := (facts W hW).1
    exact ⟨by simp [World.cell?, h1], by simp [World.cell?, h1], by simp [World.cell?, h1], by simp [World.cell?, h1], by simp [World.frozen?, h1], by simp [World.frozen?, h1], (Array.getElem?_eq_some_iff.1 h1).1⟩
  obtain ⟨y0, y1, y2, y3, y4, y5, y6⟩ := cells W0 (Below.refl _ _)
  have HFA := hid facts
  have HCE := hid cells
  have HX0 := hid hx0
  clear hW0 facts cells hx0 hq1 hq2
  have HZ0 := hid hz0
  clear hz0
  go_region_with (first
    | (go_at_call 44; refine Calls.mono (HV.out _ (by first | exact HX0.out | exact HX0.out.trans' (ext_drew _))) ?_; rintro e w1 ⟨a1, n1, c1, rfl, hb1, hx1⟩; have hxa : Ext W0 w1 := by first | exact hx1 | exact (ext_drew _).trans' hx1
       obtain ⟨z0, z1, z2, z3, z4, z5, z6⟩ := HCE.out w1 hxa; have HB1 := hid hb1; have HXA := hid hxa; clear hb1 hx1 hxa)
    | (go_at_call 40; refine Calls.mono (HD.out _ (HX0.out.trans' HXA.out)) ?_; rintro e w2 ⟨a2, n2, c2, rfl, hb2, hx2⟩; have hxb : Ext W0 w2 := HXA.out.trans' hx2
       obtain ⟨t0, t1, t2, t3, t4, t5, t6⟩ := HCE.out w2 hxb; have HB2 := hid hb2; have HXB := hid hx2; have HX02 := hid hxb; clear hb2 hx2 hxb))
  all_goals
    obtain ⟨hf1, hf2⟩ := HFA.out w2 HX02.out
    have hw2 : Ext w w2 := HX0.out.trans' HX02.out
    have k1 := heap_setCell_same w2 w.heap.size 2 _ _ (.slice a1 n1 c1) hf1
    have k2 := heap_setCell_same _ w.heap.size 3 _ _ (.slice a2 n2 c2) k1
    have k3 : ((w2.setCell ⟨w.heap.size, 2, none⟩ (.slice a1 n1 c1)).setCell ⟨w.heap.size, 3, none⟩ (.slice a2 n2 c2)).heap[w.heap.size + 1]? = some (.cells #[.int .i64 0, .int .i64 0, .slice none 0 0, .slice none 0 0] 25 (0, 0)) :=
      (heap_setCell_other _ _ _ _ (by show w.heap.size + 1 ≠ w.heap.size; omega)).trans ((heap_setCell_other _ _ _ _ (by show w.heap.size + 1 ≠ w.heap.size; omega)).trans hf2)
    have hx5 : Ext w ((w2.setCell ⟨w.heap.size, 2, none⟩ (.slice a1 n1 c1)).setCell ⟨w.heap.size, 3, none⟩ (.slice a2 n2 c2)) := (hw2.setCell (Nat.le_refl _) _).setCell (Nat.le_refl _) _
    have hother : ∀ q, q ≠ w.heap.size → ((w2.setCell ⟨w.heap.size, 2, none⟩ (.slice a1 n1 c1)).setCell ⟨w.heap.size, 3, none⟩ (.slice a2 n2 c2)).heap[q]? = w2.heap[q]? := fun q hq =>
      (heap_setCell_other _ _ _ _ hq).trans (heap_setCell_other _ _ _ _ hq)
    have hsize : ((w2.setCell ⟨w.heap.size, 2, none⟩ (.slice a1 n1 c1)).setCell ⟨w.heap.size, 3, none⟩ (.slice a2 n2 c2)).heap.size = w2.heap.size := by simp [World.setCell]
    generalize (w2.setCell ⟨w.heap.size, 2, none⟩ (.slice a1 n1 c1)).setCell ⟨w.heap.size, 3, none⟩ (.slice a2 n2 c2) = W5 at *
    have e0 : W5.cell? ⟨w.heap.size, 0, none⟩ = some (.int .i64 i) := by simp [World.cell?, k2]
    have e1 : W5.cell? ⟨w.heap.size, 1, none⟩ = some (.int .i64 t) := by simp [World.cell?, k2]
    have e2 : W5.cell? ⟨w.heap.size, 2, none⟩ = some (.slice a1 n1 c1) := by simp [World.cell?, k2]
    have e3 : W5.cell? ⟨w.heap.size, 3, none⟩ = some (.slice a2 n2 c2) := by simp [World.cell?, k2]
    have r0 : W5.cell? ⟨w.heap.size + 1, 0, none⟩ = some (.int .i64 0) := by simp [World.cell?, k3]
    have r1 : W5.cell? ⟨w.heap.size + 1, 1, none⟩ = some (.int .i64 0) := by simp [World.cell?, k3]
    have r2 : W5.cell? ⟨w.heap.size + 1, 2, none⟩ = some (.slice none 0 0) := by simp [World.cell?, k3]
    have r3 : W5.cell? ⟨w.heap.size + 1, 3, none⟩ = some (.slice none 0 0) := by simp [World.cell?, k3]
    have v0 : W5.frozen? ⟨w.heap.size + 1, 0, none⟩ = false := by simp [World.frozen?, k3]
    have v1 : W5.frozen? ⟨w.heap.size + 1, 1, none⟩ = false := by simp [World.frozen?, k3]
    have v2 : W5.frozen? ⟨w.heap.size + 1, 2, none⟩ = false := by simp [World.frozen?, k3]
    have v3 : W5.frozen? ⟨w.heap.size + 1, 3, none⟩ = false := by simp [World.frozen?, k3]
    have hl1 : w.heap.size < W5.heap.size := (Array.getElem?_eq_some_iff.1 k2).1
    have hl2 : w.heap.size + 1 < W5.heap.size := (Array.getElem?_eq_some_iff.1 k3).1
    have K3 := hid k3
    have HX5 := hid hx5
    have HO5 := hid hother
    have HS5 := hid hsize
    have HF1 := hid hf1
    clear k1 k2 k3 hx5 hother hsize hf1 hf2 hw2
    go_wp2
    obtain ⟨j1, j2, j3, j4⟩ := four_set K3.out (.int .i64 i) (.int .i64 t) (.slice a1 n1 c1) (.slice a2 n2 c2)
    refine bodyPost_ret_by (results_cell_row rfl _ _ (w.heap.size + 1) _ _ _ (Tryz.prog.underlying 25).get! rfl j1 (by kernel_rfl) (by kernel_rfl) (by kernel_rfl)) rfl ⟨_, rfl, ?_, ?_⟩
    · refine ⟨a1, n1, c1, a2, n2, c2, rfl, HIT.out.1, HIT.out.2, ?_, ?_⟩
      · have hb1 := HB1.out.below HXB.out
        refine hb1.keep fun q hq hl => ?_
        have hq1 : W0.heap.size ≤ q := hq.1
        have := HZ0.out
        refine ⟨⟨by omega, by rw [j3, HS5.out]; exact hl⟩, ?_⟩
        rw [j2 q (by omega), HO5.out q (by omega)]
      refine HB2.out.keep fun q hq hl => ⟨⟨?_, ?_⟩, ?_⟩
      · have := HXA.out.size; have := HX0.out.size; omega
      · rw [j3, HS5.out]; exact hl
      have := HXA.out.size
      rw [j2 q (by have := HZ0.out; omega), HO5.out q (by have := HZ0.out; omega)]
    exact HX5.out.trans (j4 w.heap.size (by omega))
end Go.Proofs.YtjapeaoebjmpnaaGreatDoor
