/- Lists of files in memory, from what a reader reads to them; the walk of VaultOpens. Printed by gen_rl3.py. -/
import Derived.Test.YtjapeaoebjmpnaaGreatDoorB43
import Derived.Test.YtjapeaoebjmpnaaGreatDoorB25
namespace Go.Proofs.YtjapeaoebjmpnaaGreatDoor
open Go.RowKit Go.ChangeShapes Go.WideShapes Go.Deep Go.Joins Go.Maps
set_option linter.unusedVariables false
set_option linter.unusedSimpArgs false
attribute [local go_sem] bmax2 bmin2 bmax_two bmin_two
structure Fi where
  nm : Nm
  d : By
def FiAt (F : Nat → Prop) (w : World) (b o : Nat) (p : Fi) : Prop :=
  ∃ da dn dc, w.cell? ⟨b, o, none⟩ = some (.string ⟨p.nm.toArray⟩) ∧ w.cell? ⟨b, o + 1, none⟩ = some (.slice da dn dc) ∧ p.nm.length ≤ maxLen ∧ ByF F w da dn dc p.d
theorem FiAt.keep {F G : Nat → Prop} {w w' : World} {b o : Nat} {k : Fi} (h : FiAt F w b o k) (hb : w'.heap[b]? = w.heap[b]?) (hf : ∀ q, F q → q < w.heap.size → G q ∧ w'.heap[q]? = w.heap[q]?) : FiAt G w' b o k := by
  obtain ⟨da, dn, dc, h0, h1, h5, h6⟩ := h
  have hc : ∀ j, w'.cell? ⟨b, j, none⟩ = w.cell? ⟨b, j, none⟩ := fun j => World.cell?_of_block (w := w) (a := ⟨b, j, none⟩) hb
  exact ⟨da, dn, dc, (hc _).trans h0, (hc _).trans h1, h5, h6.keep hf⟩
def FisF (F : Nat → Prop) (w : World) (a : Option Addr) (n c : Nat) (l : List Fi) : Prop :=
  n = l.length ∧ n ≤ c ∧ c ≤ maxLen ∧ (a = none → c = 0) ∧ ∀ p, a = some p → (0 < c → p.spot = none) ∧ ∀ k, (h : k < l.length) → F p.block ∧ FiAt F w p.block (p.off + k * 2) l[k]
theorem FisF.keep {F G : Nat → Prop} {w w' : World} {a : Option Addr} {n c : Nat} {l : List Fi} (h : FisF F w a n c l) (hf : ∀ k, F k → k < w.heap.size → G k ∧ w'.heap[k]? = w.heap[k]?) : FisF G w' a n c l := by
  obtain ⟨h1, h2, h3, h4, h5⟩ := h
  refine ⟨h1, h2, h3, h4, fun p hp => ⟨(h5 p hp).1, fun k hk => ?_⟩⟩
  obtain ⟨h6, h7⟩ := (h5 p hp).2 k hk
  have hl : p.block < w.heap.size := by
    obtain ⟨_, _, _, h8, -⟩ := h7
    exact World.block_lt_of_cell? w ⟨p.block, p.off + k * 2, none⟩ h8
  exact ⟨(hf _ h6 hl).1, h7.keep (hf _ h6 hl).2 hf⟩
theorem FisF.below {F : Nat → Prop} {w w' : World} {a : Option Addr} {n c : Nat} {l : List Fi} (h : FisF F w a n c l) (hx : Ext w w') : FisF F w' a n c l := h.keep fun k hk hl => ⟨hk, hx.block k hl⟩
theorem FisF.nil_ (F : Nat → Prop) (w : World) : FisF F w none 0 0 [] := ⟨rfl, by simp, by simp, fun _ => rfl, fun p hp => by cases hp⟩
theorem FisF.at_ {F : Nat → Prop} {w : World} {a : Option Addr} {n c : Nat} {l : List Fi} (h : FisF F w a n c l) {k : Nat} (hk : k < n) : ∃ b o, a = some ⟨b, o, none⟩ ∧ F b ∧ b < w.heap.size ∧ ∃ hl : k < l.length, FiAt F w b (o + k * 2) l[k] := by
  obtain ⟨rfl, h2, h3, h4, h5⟩ := h
  cases a with
  | none => have := h4 rfl; omega
  | some p =>
    obtain ⟨b, o, s⟩ := p
    have hs : s = none := (h5 _ rfl).1 (by omega)
    subst hs
    obtain ⟨h6, h7⟩ := (h5 _ rfl).2 k hk
    have hl : b < w.heap.size := by
      obtain ⟨_, _, _, h8, -⟩ := h7
      exact World.block_lt_of_cell? w ⟨b, o + k * 2, none⟩ h8
    exact ⟨b, o, rfl, h6, hl, hk, h7⟩
section
variable {H : Type} {enc : TypeId × Value → H} {w : World}
theorem c_file : Tryz.prog.cellsOf 51 = 2 := by kernel_rfl
theorem c_str : Tryz.prog.cellsOf 9 = 1 := by kernel_rfl
theorem list2 {α : Type} {l : List α} (h : l.length = 2) : ∃ c0 c1, l = [c0, c1] := by
  match l, h with
  | [c0, c1], _ => exact ⟨c0, c1, rfl⟩
theorem read_fi {fuel : Nat} {cs : List Value} {x : DataW H × List MemPlace} (h : DataW.trod enc Tryz.prog w 0 (fun _ => true) true fuel 51 cs = some x) (hw : ∀ n ∈ x.1.weights Tryz.prog 51, n ≤ reachBytes) :
    ∃ (k : Fi) (da : Option Addr) (dn dc : Nat), cs = [.string ⟨k.nm.toArray⟩, .slice da dn dc] ∧ k.nm.length ≤ maxLen ∧ ByF (fun _ => True) w da dn dc k.d := by
  obtain ⟨xs, n, -, rfl, hl, hlen, hf⟩ := DataW.trod_struct Tryz.underlying51 h
  rw [c_file] at hl
  obtain ⟨c0, c1, rfl⟩ := list2 hl
  obtain ⟨y0, y1, rfl⟩ := list2 (hlen.trans rfl)
  have g0 : DataW.trod enc Tryz.prog w 0 (fun _ => true) true n 9 (List.take (Tryz.prog.cellsOf 9) (List.drop 0 [c0, c1])) = some y0 := hf 0 _ rfl
  have g1 : DataW.trod enc Tryz.prog w 0 (fun _ => true) true n 23 (List.take (Tryz.prog.cellsOf 23) (List.drop 1 [c0, c1])) = some y1 := hf 1 _ rfl
  rw [c_str] at g0
  rw [c_bytes] at g1
  obtain ⟨s0, e0, -, hs0⟩ := DataW.trod_string Tryz.underlying9 g0
  obtain ⟨da, dn, dc, d, e1, hd⟩ := read_bytes Tryz.underlying23 Tryz.underlying5 (by kernel_rfl) (by kernel_rfl) g1 (fun q hq => hw q (by
    simp only [DataW.weights, Tryz.underlying51, List.map_cons, List.map_nil, DataW.weightsEach, List.mem_append]
    exact .inr (.inl hq)))
  simp only [List.drop_succ_cons, List.drop_zero, List.take_succ_cons, List.take_zero, List.cons.injEq, and_true] at e0 e1
  subst e0; subst e1
  exact ⟨⟨s0.data.toList, d⟩, da, dn, dc, rfl, by show s0.data.toList.length ≤ maxLen; rw [Array.length_toList]; exact hs0, hd⟩
theorem read_filesV {fuel : Nat} {cs : List Value} {x : DataW H × List MemPlace} (h : DataW.trod enc Tryz.prog w 0 (fun _ => true) true fuel 49 cs = some x) (hw : ∀ n ∈ x.1.weights Tryz.prog 49, n ≤ reachBytes) :
    ∃ a n c l, cs = [.slice a n c] ∧ FisF (fun _ => True) w a n c l := by
  rcases open_slice Tryz.underlying49 h with ⟨rfl, -⟩ | ⟨a, len, cap, m, n, D, Pl, rfl, -, hl, hm, hmm, rfl, hi⟩
  · exact ⟨none, 0, 0, [], rfl, FisF.nil_ _ _⟩
  simp only [if_true] at hmm
  subst hmm
  rw [c_file] at hi
  have hD : ∀ i, i < len → ∀ q ∈ (D i).weights Tryz.prog 51, q ≤ reachBytes := by
    intro i hil q hq
    refine hw q ?_
    simp only [DataW.weights, Tryz.underlying49, List.mem_cons, List.mem_append]
    exact .inr (.inl (weights_all (List.mem_map.2 ⟨i, List.mem_range.2 hil, rfl⟩) q hq))
  have hsp : 0 < m → a.spot = none := fun h0 => by
    obtain ⟨cs', hcs, -⟩ := hi 0 h0
    obtain ⟨-, hlen, hcell⟩ := World.cells?_some hcs
    have h3 := hcell 0 (by omega)
    rw [List.getElem?_eq_getElem (by omega)] at h3
    have := spot_of_cell h3
    unfold Addr.add at this
    simpa using this
  have hval : ∀ i, i < len → ∃ e : Fi, ∀ b o, a = ⟨b, o, none⟩ → FiAt (fun _ => True) w b (o + i * 2) e := by
    intro i hil
    obtain ⟨cs', hcs, htr⟩ := hi i (by omega)
    obtain ⟨-, hlen, hcell⟩ := World.cells?_some hcs
    obtain ⟨k, da, dn, dc, rfl, h1, h2⟩ := read_fi htr (hD i hil)
    refine ⟨k, fun b o ha => ?_⟩
    subst ha
    have cell : ∀ j, j < 2 → w.cell? ⟨b, o + i * 2 + j, none⟩ = [Value.string ⟨k.nm.toArray⟩, .slice da dn dc][j]? := by
      intro j hj
      have := hcell j hj
      rw [add_lit, add_lit] at this
      exact this
    exact ⟨da, dn, dc, cell 0 (by omega), cell 1 (by omega), h1, h2⟩
  refine ⟨some a, len, m, (List.range len).map fun i => if h : i < len then Classical.choose (hval i h) else ⟨[], []⟩, rfl, by simp, hl, hm, (fun e => by cases e), fun p hp => ?_⟩
  cases hp
  refine ⟨hsp, fun k hk => ⟨trivial, ?_⟩⟩
  have hk' : k < len := by simpa using hk
  simp only [List.getElem_map, List.getElem_range, dif_pos hk']
  obtain ⟨b, o, s⟩ := a
  have hs : s = none := hsp (by omega)
  subst hs
  exact Classical.choose_spec (hval k hk') b o rfl
end

theorem fcells2 {W : World} {b : Nat} {x0 x1 : Value} {t : TypeId} (h : W.heap[b]? = some (.cells #[x0, x1] t (0, 0))) : W.cell? ⟨b, 0, none⟩ = some x0 ∧ W.cell? ⟨b, 1, none⟩ = some x1 := ⟨by simp [World.cell?, h], by simp [World.cell?, h]⟩
set_option maxRecDepth 100000 in
set_option maxHeartbeats 8000000 in
theorem VaultOpens_calls {F : Nat → Prop} {w : World} {a : Option Addr} {n c : Nat} {l : List Fi} (hl : FisF F w a n c l) (hT : TabP w) :
    Calls Tryz.prog 6 #[.slice a n c] w (fun e w' => e = .returned (.bool true) ∧ Ext w w') := by
  have HL := hid hl
  have HT := hid hT
  have HPL := hid hT.lt
  have hn63 : n ≤ 9223372036854775807 := by have h1 := hl.2.1; have h2 := hl.2.2.1; unfold maxLen at h2; omega
  have HA := hid (fun W (hW : Ext w W) => awake_any (hT.ext hW))
  clear hl hT
  go_enter Tryz.func6, Tryz.ntmps6
  go_wp2
  go_loopw [3, 4] (fun x z wr => ∃ (k m : Nat), k ≤ n ∧ k ≤ 21 ∧ z = .int .i64 (k : Int) ∧ x = .int .i64 (m : Int) ∧ m ≤ 65536 * k ∧ wr = w) (fun _ z _ => 30 - (intOf z).toNat)
  case atStart => exact ⟨0, 0, Nat.zero_le _, by omega, rfl, rfl, by omega, by trivial⟩
  obtain ⟨k, m, hk, hk21, rfl, rfl, hm, hwr⟩ := hrel
  obtain rfl : w = wr := hwr.symm
  clear hwr
  by_cases hgo : k < n ∧ k ≤ 20
  · obtain ⟨b, o, rfl, -, hbl, hkl, da, dn, dc, q0, q1, q2, q3⟩ := HL.out.at_ hgo.1
    have hki : (k : Int) < (n : Int) := by omega
    have hki0 : (0 : Int) ≤ (k : Int) := by omega
    have hki2 : (k : Int) ≤ 20 := by omega
    have hdn : dn ≤ 140737488351232 := q3.2.2.1.2
    obtain ⟨mm, hmm⟩ : ∃ mm, mm = min dn 65536 := ⟨_, rfl⟩
    have m1 : min (dn : Int) 65536 = (mm : Int) := by omega
    have m2 : IntKind.i64.wrap ((m : Int) + (mm : Int)) = ((m + mm : Nat) : Int) := by rw [IntWalk.i64_in _ ⟨by omega, by omega⟩]; omega
    have hmm2 : mm ≤ 65536 := by omega
    clear hgo q0 q2 q3 hmm
    go_wp2
    go_roundw
    case rel => exact ⟨k + 1, m + mm, by omega, by omega, by go_num, by rfl, by omega, by trivial⟩
    case measure => simp [intOf]; omega
  have HGO := hid hgo
  by_cases hkn : k < n
  · have hki : (k : Int) < (n : Int) := by omega
    have hki2 : ¬ (k : Int) ≤ 20 := by omega
    have hn20 : (20 : Int) < (n : Int) := by omega
    have hn20b : decide ((20 : Int) < (n : Int)) = true := by simpa using hn20
    clear hgo
    go_wp2_with fail
    refine Calls.mono (HA.out _ (Below.refl _ _)) ?_
    rintro e w2 ⟨rfl, hx2⟩
    go_wp2
    go_ret
    exact ⟨rfl, hx2⟩
  have hki : ¬ (k : Int) < (n : Int) := by omega
  clear hgo
  by_cases hbig : 20 < n ∨ 32768 < m
  · have HB := hid hbig
    by_cases h20 : 20 < n
    · have hn20 : (20 : Int) < (n : Int) := by omega
      clear hbig
      go_wp2_with fail
      refine Calls.mono (HA.out _ (Below.refl _ _)) ?_
      rintro e w2 ⟨rfl, hx2⟩
      go_wp2
      go_ret
      exact ⟨rfl, hx2⟩
    have hn20 : ¬ (20 : Int) < (n : Int) := by omega
    have hmb : (32768 : Int) < (m : Int) := by omega
    clear hbig
    go_wp2_with fail
    refine Calls.mono (HA.out _ (Below.refl _ _)) ?_
    rintro e w2 ⟨rfl, hx2⟩
    go_wp2
    go_ret
    exact ⟨rfl, hx2⟩
  have hn20 : ¬ (20 : Int) < (n : Int) := by omega
  have hmb : ¬ (32768 : Int) < (m : Int) := by omega
  have hnn : n ≤ 20 := by omega
  clear hbig
  go_wp2_with fail
  refine Calls.mono (New_any 1048576 w) ?_
  rintro e w2 (⟨-, -, dg, rfl, hd2, hx2⟩ | ⟨hno, -⟩)
  case inr => exact absurd ⟨by decide, by decide⟩ hno
  have HD2 := hid hd2
  have HX2 := hid hx2
  clear hd2 hx2
  go_wp2_with fail
  refine Calls.mono (RNew_any 1048576 w2) ?_
  rintro e w3 (⟨-, -, rg, rfl, hr3, hrg, hx3⟩ | ⟨hno, -⟩)
  case inr => exact absurd ⟨by decide, by decide⟩ hno
  have HD3 := hid (HD2.out.below hx3)
  have HR3 := hid hr3
  have HRG := hid hrg
  have HX3 := hid (HX2.out.trans' hx3)
  clear hr3 hrg hx3 HD2
  go_wp2
  go_loopw [10, 52] (fun _ z W => ∃ (k : Nat) (A B : Nat → Prop) (dk : DS), k ≤ n ∧ z = .int .i64 (k : Int) ∧ Hid (DiskAt A W dg dk) ∧ Hid (RDk B W rg dk) ∧ Hid (∀ q, A q → w.heap.size ≤ q ∧ ¬ B q) ∧ Hid (∀ q, B q → w.heap.size ≤ q) ∧ Hid (dk.Ok) ∧ Hid (MayD dk) ∧
      Hid (dk.off = false ∧ dk.left = 0) ∧ Hid (dk.acts.length ≤ k) ∧ Hid (Ext w W)) (fun _ z _ => n - (intOf z).toNat)
  case atStart => exact ⟨0, _, _, _, Nat.zero_le _, rfl, HD3.out, HR3.out, hid (fun q hq => by
    rcases hq with hq | hq
    · exact hq.elim
    exact ⟨hq.1, by have := HRG.out; have := hq.2; omega⟩), hid (fun q hq => by rw [hq]; have := HRG.out; have := HX2.out.size; omega), DS.new_ok _ (by decide) (by decide), hid ⟨(fun p hp => by cases hp), (fun p hp => by cases hp)⟩, hid ⟨rfl, rfl⟩, Nat.le_refl _, HX3.out⟩
  obtain ⟨k2, A, B, dk, hk2, rfl, HDk, HRk, HAB, HBW, HOK, HMY, HON, HAC, HXK⟩ := hrel
  clear hki hkn hk hk21 hm hmb hn20 HGO
  by_cases hlt : k2 < n
  · obtain ⟨b, ob, rfl, -, hbl, hkl, fa, fn, fc, q0, q1, q2, q3⟩ := HL.out.at_ hlt
    obtain ⟨nm, hnm⟩ : ∃ nm, nm = (l[k2]).nm := ⟨_, rfl⟩
    obtain ⟨bt, hbt⟩ : ∃ bt, bt = (l[k2]).d := ⟨_, rfl⟩
    rw [← hnm] at q0 q2
    rw [← hbt] at q3
    have q0 := (HXK.out.cell (p := ⟨b, ob + k2 * 2, none⟩) (World.block_lt_of_cell? _ _ q0)).trans q0
    have q1 := (HXK.out.cell (p := ⟨b, ob + k2 * 2 + 1, none⟩) (World.block_lt_of_cell? _ _ q1)).trans q1
    have hki : (k2 : Int) < (n : Int) := by omega
    have hki0 : (0 : Int) ≤ (k2 : Int) := by omega
    have HQ3 := hid q3
    have HNL := hid q2
    have hx4 := ext_alloc wr (.cells #[.string ⟨nm.toArray⟩, .slice fa fn fc] 51)
    have hb4 := heap_alloc_new wr (.cells #[.string ⟨nm.toArray⟩, .slice fa fn fc] 51)
    clear q2 q3 hnm hbt
    go_wp2
    generalize wr.alloc (.cells #[.string ⟨nm.toArray⟩, .slice fa fn fc] 51) = wz at *
    obtain ⟨p, hp⟩ : ∃ p, p = wr.heap.size := ⟨_, rfl⟩
    rw [← hp] at hb4 ⊢
    have HPP := hid (show (∀ q, A q → q ≠ p) ∧ (∀ q, B q → q ≠ p) ∧ p < wz.heap.size from ⟨fun q hq => by have := HDk.out.lt q hq; omega, fun q hq => by have := HRk.out.lt q hq; omega, (Array.getElem?_eq_some_iff.1 hb4).1⟩)
    have HXZ := hid (HXK.out.trans' hx4)
    have y0 : wz.drew.heap[p]? = some (.cells #[.string ⟨nm.toArray⟩, .slice fa fn fc] 51 (0, 0)) := hb4
    refine wp_region_held_drew (S := fun W => W.heap[p]? = some (.cells #[.string ⟨nm.toArray⟩, .slice fa fn fc] 51 (0, 0))) (by kernel_rfl) y0 (fun hH => ?_)
    obtain ⟨wd, hwd⟩ : ∃ wd, wd = wz.drew := ⟨_, rfl⟩
    have hxd : Ext wz wd := by rw [hwd]; exact ext_drew wz
    rw [← hwd] at y0 ⊢
    have HPd := hid (show p < wd.heap.size from Nat.lt_of_lt_of_le HPP.out.2.2 hxd.size)
    have HDd := hid ((HDk.out.below hx4).below hxd)
    have HRd := hid ((HRk.out.below hx4).below hxd)
    have HXd := hid (HXZ.out.trans' hxd)
    have hok2 := HOK.out.write nm 0 bt
    have hmy2 := HMY.out.write nm 0 bt
    have hon2 := write_keep HON.out.2 nm 0 bt
    have hac2 := DS.write_acts dk nm 0 bt
    have hwa := Write_at HDd.out HOK.out (by have := HAC.out; omega) nm HNL.out 0 ⟨by decide, by decide⟩ (HQ3.out.below HXd.out)
    have hwb := fun (W : World) (hW : RDk B W rg dk) (hb : ByF (fun q => q < w.heap.size) W fa fn fc bt) => RWrite_any hW HOK.out (by have := HAC.out; omega) nm HNL.out 0 ⟨by decide, by decide⟩ hb
    obtain ⟨r, hr⟩ : ∃ r, r = dk.write nm 0 bt := ⟨_, rfl⟩
    rw [← hr] at hok2 hmy2 hon2 hac2 hwa hwb
    obtain ⟨r1, d2⟩ := r
    dsimp only at hok2 hmy2 hon2 hac2
    have HOK2 := hid hok2
    have HMY2 := hid hmy2
    have HON2 := hid hon2
    have HAC2 := hid (show d2.acts.length ≤ k2 + 1 by have := HAC.out; omega)
    have HWA := hid hwa
    have HWB := hid hwb
    have hne : ((r1 : Int) != r1) = false := by simp
    clear hH hwd hx4 hb4 hp hxd hok2 hmy2 hon2 hac2 hwa hwb hr q0 q1
    refine hr_ 0 (.pointer (some ⟨dg, 0, none⟩)) rfl y0 (fun W hW => ?_) ?_
    · (clear hW; go_simp)
    try simp only [Act.put, sA_, s0_, sS_]
    refine hr_ 1 (.pointer (some ⟨p, 0, none⟩)) rfl y0 (fun W hW => ?_) ?_
    · (clear hW; go_simp)
    try simp only [Act.put, sA_, s0_, sS_]
    refine hr_ 2 (.string ⟨nm.toArray⟩) rfl y0 (fun W hW => ?_) ?_
    · (obtain ⟨q0, q1⟩ := fcells2 hW; clear hW; go_simp)
    try simp only [Act.put, sA_, s0_, sS_]
    refine hr_ 3 (.pointer (some ⟨p, 1, none⟩)) rfl y0 (fun W hW => ?_) ?_
    · (clear hW; go_simp)
    try simp only [Act.put, sA_, s0_, sS_]
    refine hr_ 4 (.slice fa fn fc) rfl y0 (fun W hW => ?_) ?_
    · (obtain ⟨q0, q1⟩ := fcells2 hW; clear hW; go_simp)
    try simp only [Act.put, sA_, s0_, sS_]
    refine hr_ 6 (.pointer (some ⟨rg, 0, none⟩)) rfl y0 (fun W hW => ?_) ?_
    · (clear hW; go_simp)
    try simp only [Act.put, sA_, s0_, sS_]
    refine hr_ 7 (.pointer (some ⟨p, 0, none⟩)) rfl y0 (fun W hW => ?_) ?_
    · (clear hW; go_simp)
    try simp only [Act.put, sA_, s0_, sS_]
    refine hr_ 8 (.string ⟨nm.toArray⟩) rfl y0 (fun W hW => ?_) ?_
    · (obtain ⟨q0, q1⟩ := fcells2 hW; clear hW; go_simp)
    try simp only [Act.put, sA_, s0_, sS_]
    refine hr_ 9 (.pointer (some ⟨p, 1, none⟩)) rfl y0 (fun W hW => ?_) ?_
    · (clear hW; go_simp)
    try simp only [Act.put, sA_, s0_, sS_]
    refine hr_ 10 (.slice fa fn fc) rfl y0 (fun W hW => ?_) ?_
    · (obtain ⟨q0, q1⟩ := fcells2 hW; clear hW; go_simp)
    try simp only [Act.put, sA_, s0_, sS_]
    refine hc_ 5 rfl (fun K hK => ?_)
    go_simp
    go_at_call 27
    refine Calls.mono HWA.out ?_
    rintro e wa ⟨rfl, hda, hfa⟩
    have y1 := (hfa.block p HPd.out (fun h => HPP.out.1 p h rfl)).trans y0
    have HDA := hid hda
    have HFA := hid hfa
    have HRA := hid (HRd.out.frm hfa fun q hq h => (HAB.out q h).2 hq)
    have HBA := hid ((HQ3.out.keep (w' := wa) (G := fun q => q < w.heap.size) fun q hq hl => ⟨hl, (hfa.block q (Nat.lt_of_lt_of_le hl HXd.out.size) (fun h => by have := (HAB.out q h).1; omega)).trans (HXd.out.block q hl)⟩))
    have HXA := hid (ext_frm HXd.out hfa fun q hq => (HAB.out q hq).1)
    clear hda hfa
    dsimp only
    refine hK.out _ _ y1 (fun hH => ?_)
    clear hK K y0 hH
    have y0 := y1
    clear y1
    try simp only [Act.put, sA_, s0_, sS_]
    refine hc_ 11 rfl (fun K hK => ?_)
    go_simp
    go_at_call 28
    refine Calls.mono (HWB.out _ HRA.out HBA.out) ?_
    rintro e wb ⟨rfl, hdb, hfb⟩
    have y1 := (hfb.block p (Nat.lt_of_lt_of_le HPd.out HFA.out.size) (fun h => HPP.out.2.1 p h rfl)).trans y0
    have HDB := hid hdb
    have HFB := hid hfb
    clear hdb hfb
    dsimp only
    refine hK.out _ _ y1 (fun hH => ?_)
    clear hK K y0 hH
    have y0 := y1
    clear y1
    try simp only [Act.put, sA_, s0_, sS_]
    refine hr_ 12 (.bool false) rfl y0 (fun W hW => ?_) ?_
    · (clear hW; go_simp)
    try simp only [Act.put, sA_, s0_, sS_]
    refine wpAnyH_done (by kernel_rfl) ?_ _
    clear y0
    go_wp2
    go_roundw
    case rel => exact ⟨k2 + 1, grow A wd wa, grow B wa wb, d2, by omega, by go_num, HDA.out.frm HFB.out (fun q hq h => by
        rcases hq with hq | hq
        · exact (HAB.out q hq).2 h
        · have := HRd.out.lt q h; omega), HDB.out, hid (fun q hq => by
        have h1 := HDA.out.lt q hq
        refine ⟨?_, fun h => ?_⟩
        · rcases hq with hq | hq
          · exact (HAB.out q hq).1
          have := HXd.out.size; omega
        · rcases h with h | h
          · rcases hq with hq | hq
            · exact (HAB.out q hq).2 h
            have := HRd.out.lt q h; omega
          omega), hid (fun q hq => by
        rcases hq with hq | hq
        · exact HBW.out q hq
        have := HXA.out.size; omega), HOK2.out, HMY2.out, hid ⟨HON2.out.1.trans HON.out.1, HON2.out.2⟩, HAC2.out, ext_frm HXA.out HFB.out fun q hq => HBW.out q hq⟩
    case measure => simp [intOf]; omega
  have hki : ¬ (k2 : Int) < (n : Int) := by omega
  obtain ⟨ho1, ho2⟩ := open_on HOK.out HMY.out HON.out.1 HON.out.2
  have HOP := hid (Open_any HDk.out HOK.out HMY.out.nms (by have := HAC.out; omega) (HT.out.ext HXK.out) (fun h => by have h1 := (HAB.out powG h).1; have h2 := HPL.out; omega))
  have HRO := hid (fun (W : World) (hW : RDk B W rg dk) => ROpen_any hW HOK.out HMY.out.nms HOK.out.run.1 (by have := HAC.out; omega))
  have hpl := Play.open_ HOK.out HMY.out
  have hac := openS_acts dk HOK.out
  have hmy := HMY.out.open_ HOK.out
  obtain ⟨ro, hro⟩ : ∃ r, r = openS dk := ⟨_, rfl⟩
  obtain ⟨ks, hks⟩ : ∃ r, r = kept dk := ⟨_, rfl⟩
  rw [← hro] at ho1 ho2 HOP HRO hpl hac hmy
  rw [← hks] at HOP HRO hpl
  obtain ⟨r1, d2⟩ := ro
  dsimp only at ho1 ho2 hpl hac hmy
  subst ho1
  have HO2 := hid ho2
  have HPY := hid hpl
  have HAC2 := hid (show d2.acts.length ≤ 5000 by have := HAC.out; omega)
  have HMY2 := hid hmy
  have HZK := hid HRk.out.lt
  clear ho2 hpl hac hmy hro hks
  go_wp2_with fail
  refine Calls.mono HOP.out ?_
  rintro e w5 (⟨hno, -⟩ | ⟨-, g, rfl, hv, hf5⟩)
  case inl => exact absurd rfl hno
  have HV5 := hid hv
  have HF5 := hid hf5
  have HR5 := hid (HRk.out.frm hf5 fun q hq h => (HAB.out q h).2 hq)
  have HX5 := hid (ext_frm HXK.out hf5 fun q hq => (HAB.out q hq).1)
  clear hv hf5
  go_wp2_with fail
  refine Calls.mono (HRO.out w5 HR5.out) ?_
  rintro e w6 (⟨hno, -⟩ | ⟨-, rv, rfl, hrv, hf6⟩)
  case inl => exact absurd rfl hno
  have HV6 := hid (HV5.out.frm hf6 fun q hq h => by
    rcases hq with hq | hq
    · exact (HAB.out q hq).2 h
    have := HZK.out q h; omega)
  have HX6 := hid (ext_frm HX5.out hf6 fun q hq => HBW.out q hq)
  obtain ⟨D1, G1, d1, d2v, -⟩ := HV6.out
  obtain ⟨D2, G2, e1, e2, -⟩ := hrv
  have HTE := hid (tells_any (v := ⟨ks.1, ks.2, d2⟩) d2v e2 HPY.out.none HPY.out.len)
  have HAL := hid (fun W (hW : Ext w6 W) => alike_any (d1.below hW) (e1.below hW) HPY.out.ok HMY2.out.nms HO2.out (by have := HAC2.out; dsimp only; omega))
  clear d1 d2v e1 e2 hf6
  go_wp2_with fail
  refine Calls.mono HTE.out ?_
  rintro e w7 ⟨rfl, hx7⟩
  go_wp2_with fail
  refine Calls.mono (HAL.out w7 hx7) ?_
  rintro e w8 ⟨rfl, hx8⟩
  have HX8 := hid (HX6.out.trans' (hx7.trans' hx8))
  clear hx7 hx8
  go_wp2_with fail
  refine Calls.mono (HA.out w8 HX8.out) ?_
  rintro e w9 ⟨rfl, hx9⟩
  go_wp2
  go_ret
  exact ⟨rfl, HX8.out.trans' hx9⟩
end Go.Proofs.YtjapeaoebjmpnaaGreatDoor
