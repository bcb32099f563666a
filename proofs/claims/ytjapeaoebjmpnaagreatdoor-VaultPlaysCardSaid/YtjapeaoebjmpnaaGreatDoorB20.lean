/- The walk of the law's awake. -/
import Derived.Test.YtjapeaoebjmpnaaGreatDoorB19
import Derived.Deep.RegionHeld3
namespace Go.Proofs.YtjapeaoebjmpnaaGreatDoor
open Go.RowKit Go.Maps
set_option linter.unusedVariables false
set_option linter.unusedSimpArgs false
attribute [local go_sem] bmax2 bmin2 bmax_two bmin_two

theorem fileB_le {s : Sn} (h : s.vs.length ≤ 7) : (fileB s).length ≤ s.d.length + 14 * ((s.d.length + 511) / 512) + 113 := by
  have h1 : ∀ (L : List By), (L.map recB).flatten.length ≤ L.flatten.length + 14 * L.length := by
    intro L
    induction L with
    | nil => simp
    | cons p L ih =>
      rw [List.map_cons, List.flatten_cons, List.flatten_cons, List.length_append, List.length_append, recB_len, List.length_cons]
      have := (numB_len p.length).2
      omega
  have h2 := h1 (rowsS s)
  have h3 : (rowsS s).flatten.length = (headS s).length + s.d.length := by
    unfold rowsS
    rw [List.flatten_cons, List.length_append, chunksB_flat]
  have h4 : (rowsS s).length = (s.d.length + 511) / 512 + 1 := by unfold rowsS chunksB; simp
  have h5 := headS_len h
  unfold fileB partsB
  omega
theorem oneS_ok {n : Nat} (hn : n ≤ 262144) : checkS (oneS 3 n) = 0 := by
  unfold checkS oneS
  dsimp only
  rw [if_neg (by simp [votersB, votG]), if_neg (by rw [List.length_replicate]; omega)]
theorem DiskAt.of_va {A : Nat → Prop} {w : World} {g dg : Nat} {v : VS} (h : VaAt A w g dg v) : ∃ D, DiskAt D w dg v.d ∧ ∀ q, D q → A q := by
  obtain ⟨D, G, h1, -, h3, -⟩ := h
  exact ⟨D, h1, fun q hq => (h3 q hq).1⟩
theorem VaO.of_va {A : Nat → Prop} {w : World} {g dg : Nat} {v : VS} (h : VaAt A w g dg v) : ∃ G, VaO G w g v.s v.some dg ∧ ∀ q, G q → A q := by
  obtain ⟨D, G, h1, h2, h3, h4, -⟩ := h
  exact ⟨G, h2, fun q hq => (h4 q hq).1⟩
theorem Crash_at {D : Nat → Prop} {w : World} {g : Nat} {s : DS} (h : DiskAt D w g s) (hok : s.Ok) (hc : s.acts.length < 1000000000000) (keep tear : Int) (hk : In64 keep) (ht : In64 tear) :
    Calls Tryz.prog 23 #[.pointer (some ⟨g, 0, none⟩), .int .i64 keep, .int .i64 tear] w (DoPost D g (s.crash keep tear) w) := by
  obtain ⟨ms, ml, av, H, h⟩ := h
  exact Crash_in h hok hc keep tear hk ht
theorem Start_at {D : Nat → Prop} {w : World} {g : Nat} {s : DS} (h : DiskAt D w g s) :
    Calls Tryz.prog 22 #[.pointer (some ⟨g, 0, none⟩)] w (DoPost D g (0, s.start) w) := by
  obtain ⟨ms, ml, av, H, h⟩ := h
  exact Start_in h
theorem DoPost.ext {D : Nat → Prop} {g : Nat} {r : Int × DS} {w0 w w' : World} {e : Ending} (hx : Ext w0 w) (hD : ∀ q, D q → w0.heap.size ≤ q) (h : DoPost D g r w e w') : Ext w0 w' ∧ DiskAt (grow D w w') w' g r.2 ∧ (∀ q, grow D w w' q → w0.heap.size ≤ q) := by
  refine ⟨ext_frm hx h.2.2 hD, h.2.1, fun q hq => ?_⟩
  rcases hq with hq | hq
  · exact hD q hq
  have := hx.size; omega
theorem SavePost.ext {A : Nat → Prop} {g dg : Nat} {r : Int × VS} {w0 w w' : World} {e : Ending} (hx : Ext w0 w) (hA : ∀ q, A q → w0.heap.size ≤ q) (h : SavePost A g dg r w e w') : Ext w0 w' ∧ VaAt (grow A w w') w' g dg r.2 ∧ (∀ q, grow A w w' q → w0.heap.size ≤ q) := by
  refine ⟨ext_frm hx h.2.2 hA, h.2.1, fun q hq => ?_⟩
  rcases hq with hq | hq
  · exact hA q hq
  have := hx.size; omega

set_option maxRecDepth 100000 in
set_option maxHeartbeats 8000000 in
theorem awake_any {w : World} (hT : TabP w) : Calls Tryz.prog 11 #[] w (fun e w' => e = .returned (.bool true) ∧ Ext w w') := by
  have HT := hid hT
  have HPL := hid hT.lt
  have HBE := hid (begun_any hT (room := 10000) (by decide) (by decide))
  have hone := fun W => one_any W 3 ⟨by decide, by decide⟩ 600 (by decide)
  rw [show ((600 : Nat) : Int) = 600 from rfl] at hone
  obtain ⟨s1, hs1⟩ : ∃ s1, s1 = oneS 3 600 := ⟨_, rfl⟩
  rw [← hs1] at hone
  have hck : checkS s1 = 0 := by rw [hs1]; exact oneS_ok (by decide)
  have hdl : s1.d = List.replicate 600 0 := by rw [hs1]; rfl
  have hfl : (fileB s1).length ≤ 800 := by
    have := fileB_le (checkS_ok hck).2.2.2.1
    rw [hdl, List.length_replicate] at this
    omega
  obtain ⟨d1, hsv1, hcalm, hroom, hlast⟩ := save_calm (v := ⟨sn0, false, DS.new 10000⟩) (s := s1) (calm_new (by decide) (by decide)) hck (fun h => by cases h) (by show ((0 : Nat) + _ : Int) ≤ 10000; omega)
  obtain ⟨hact, hlas⟩ := hlast rfl
  have hsv2 : saveS ⟨s1, true, d1⟩ s1 = (51, ⟨s1, true, d1⟩) := by
    unfold saveS
    rw [if_neg (by rw [hck]; simp), if_pos ⟨rfl, Int.le_refl _⟩]
  have hpc : pieceS ⟨s1, true, d1⟩ 512 = (List.replicate 88 0, true, 0) := by
    unfold pieceS
    rw [if_neg (by simp), if_neg (by rw [hdl, List.length_replicate]; decide)]
    rw [hdl]
    rfl
  have hseen : d1.seen = [(nameB s1.i, fileB s1)] := hcalm.seen
  obtain ⟨hop, hkp⟩ := open_one (d := (d1.crash 9 0).2.start) rfl (by unfold DS.crash; rw [if_neg (by rw [hcalm.off]; simp)]; rfl) hck (by
    unfold DS.crash
    rw [if_neg (by rw [hcalm.off]; simp)]
    show runAll d1.last (lastsS d1.acts 9 0) = _
    rw [hact]
    show d1.last = _
    rw [hlas, hseen])
  have hokc := (hcalm.ok.crash 9 0).start
  have hacc : (d1.crash 9 0).2.start.acts.length ≤ 1 := by
    show (d1.crash 9 0).2.acts.length ≤ 1
    unfold DS.crash
    rw [if_neg (by rw [hcalm.off]; simp)]
    exact Nat.zero_le _
  have hnmc : (d1.crash 9 0).2.start.Nms := by
    unfold DS.crash
    rw [if_neg (by rw [hcalm.off]; simp)]
    show tNm (runAll d1.last (lastsS d1.acts 9 0))
    rw [hact]
    show tNm d1.last
    rw [hlas, hseen]
    intro p hp
    rw [List.mem_singleton] at hp
    rw [hp, nameB_len (by have := (checkS_ok hck).1; omega) (checkS_ok hck).1.2]
    decide
  have HONE := hid hone
  have HCK := hid hck
  have HSV1 := hid hsv1
  have HSV2 := hid hsv2
  have HPC := hid hpc
  have HOK1 := hid hcalm.ok
  have HAC1 := hid (show d1.acts.length ≤ 1 from hcalm.acts)
  have HOPN := hid hop
  have HKP := hid hkp
  have HOKC := hid hokc
  have HACC := hid hacc
  have HNMC := hid hnmc
  have HSR := hid (show sameS s1 s1 = true from sameS_iff.2 rfl)
  clear hT hone hs1 hck hdl hfl hsv1 hcalm hroom hlast hact hlas hsv2 hpc hseen hop hkp hokc hacc hnmc
  go_enter Tryz.func11, Tryz.ntmps11
  go_wp2_with fail
  refine Calls.mono HBE.out ?_
  rintro e w1 ⟨dg, g, A, rfl, hv1, hA1, hx1⟩
  have HV1 := hid hv1
  have HA1 := hid hA1
  have HX1 := hid hx1
  clear hv1 hA1 hx1
  go_wp2_with fail
  refine Calls.mono (HONE.out w1) ?_
  rintro e w2 ⟨v2, rfl, hs2, hx2⟩
  have hS1 := Save_any (HV1.out.below hx2) ⟨DS.new_ok 10000 (by decide) (by decide), fun h => by cases h⟩ (by show (0 : Nat) ≤ _; omega) hs2 (fun q hq h => by have h1 := HV1.out.lt q h; omega) (HT.out.ext (HX1.out.trans' hx2)) (fun h => by have h1 := HA1.out _ h; have h2 := HPL.out; omega)
  rw [HSV1.out] at hS1
  have HS1 := hid hS1
  have HX2 := hid (HX1.out.trans' hx2)
  clear hS1 hs2 hx2
  go_wp2_with fail
  refine Calls.mono HS1.out ?_
  rintro e w3 hp3
  obtain ⟨hx3, hv3, hA3⟩ := SavePost.ext HX2.out HA1.out hp3
  obtain ⟨rfl, -, -⟩ := hp3
  have HX3 := hid hx3
  have HV3 := hid hv3
  have HA3 := hid hA3
  clear hx3 hv3 hA3 HV1 HA1 HS1
  generalize grow A w2 w3 = A3 at *
  go_wp2_with fail
  refine Calls.mono (HONE.out w3) ?_
  rintro e w4 ⟨v4, rfl, hs4, hx4⟩
  have hS2 := Save_any (HV3.out.below hx4) ⟨HOK1.out, fun _ => HCK.out⟩ (by have := HAC1.out; show d1.acts.length ≤ _; omega) hs4 (fun q hq h => by have h1 := HV3.out.lt q h; omega) (HT.out.ext (HX3.out.trans' hx4)) (fun h => by have h1 := HA3.out _ h; have h2 := HPL.out; omega)
  (try dsimp only at hS2)
  rw [HSV2.out] at hS2
  have HS2 := hid hS2
  have HX4 := hid (HX3.out.trans' hx4)
  clear hS2 hs4 hx4
  go_wp2_with fail
  refine Calls.mono HS2.out ?_
  rintro e w5 hp5
  obtain ⟨hx5, hv5, hA5⟩ := SavePost.ext HX4.out HA3.out hp5
  obtain ⟨rfl, -, -⟩ := hp5
  have HX5 := hid hx5
  have HV5 := hid hv5
  have HA5 := hid hA5
  clear hx5 hv5 hA5 HV3 HA3 HS2
  generalize grow A3 w4 w5 = A5 at *
  obtain ⟨G, ho5, -⟩ := VaO.of_va HV5.out
  have hP := Piece_any (v := ⟨s1, true, d1⟩) ho5 512
  rw [HPC.out] at hP
  have HP := hid hP
  clear ho5 hP
  go_wp2_with fail
  refine Calls.mono HP.out ?_
  rintro e w6 ⟨pa, pn, pc, rfl, hb6, hx6⟩
  have hpn : pn = 88 := by rw [hb6.1]; rfl
  subst hpn
  obtain ⟨D, hd, hDA⟩ := DiskAt.of_va HV5.out
  have hd6 := hd.below hx6
  have hx06 := HX5.out.trans' hx6
  have HD6 := hid hd6
  have HX6 := hid hx06
  have HDD := hid (fun q (hq : D q) => HA5.out q (hDA q hq))
  clear hb6 hx6 hd hDA hd6 hx06 HV5 HA5 HP
  go_wp2_with fail
  refine Calls.mono (Crash_at HD6.out HOK1.out (by have := HAC1.out; show d1.acts.length < _; omega) 9 0 ⟨by decide, by decide⟩ ⟨by decide, by decide⟩) ?_
  rintro e w7 hp7
  obtain ⟨hx7, hd7, hD7⟩ := DoPost.ext HX6.out HDD.out hp7
  obtain ⟨rfl, -, -⟩ := hp7
  have HX7 := hid hx7
  have HD7 := hid hd7
  have HDD7 := hid hD7
  clear hx7 hd7 hD7 HD6 HDD
  generalize grow D w6 w7 = D7 at *
  go_wp2_with fail
  refine Calls.mono (Start_at HD7.out) ?_
  rintro e w8 hp8
  obtain ⟨hx8, hd8, hD8⟩ := DoPost.ext HX7.out HDD7.out hp8
  obtain ⟨rfl, -, -⟩ := hp8
  have HX8 := hid hx8
  have HD8 := hid hd8
  have HDD8 := hid hD8
  clear hx8 hd8 hD8 HD7 HDD7
  generalize grow D7 w7 w8 = D8 at *
  have hO := Open_any HD8.out HOKC.out HNMC.out (Nat.le_trans HACC.out (by decide)) (HT.out.ext HX8.out) (fun h => by have h1 := HDD8.out _ h; have h2 := HPL.out; omega)
  rw [HOPN.out, HKP.out] at hO
  have HO := hid hO
  clear hO
  go_wp2_with fail
  refine Calls.mono HO.out ?_
  rintro e w9 hp9
  rcases hp9 with ⟨h, -⟩ | ⟨-, g9, rfl, hv9, hf9⟩
  · exact absurd rfl h
  have HX9 := hid (ext_frm HX8.out hf9 HDD8.out)
  obtain ⟨G9, ho9, -⟩ := VaO.of_va hv9
  have HL := hid (Last_any ho9)
  clear hv9 hf9 ho9 HO
  go_wp2_with fail
  refine Calls.mono HL.out ?_
  rintro e w10 ⟨v10, rfl, hs10, hx10⟩
  have HS10 := hid hs10
  have HX10 := hid (HX9.out.trans' hx10)
  obtain ⟨va, vn, vc, da, dn, dc, rfl, -, -, -, -⟩ := hs10
  clear hx10 HL
  go_wp2
  have hx11 := ext_alloc w10 (.cells #[.int .i64 s1.i, .int .i64 s1.t, .slice va vn vc, .slice da dn dc] 25)
  have hn11 := heap_alloc_new w10 (.cells #[.int .i64 s1.i, .int .i64 s1.t, .slice va vn vc, .slice da dn dc] 25)
  have hz11 : w10.heap.size < (w10.alloc (.cells #[.int .i64 s1.i, .int .i64 s1.t, .slice va vn vc, .slice da dn dc] 25)).heap.size := by simp
  generalize w10.alloc (.cells #[.int .i64 s1.i, .int .i64 s1.t, .slice va vn vc, .slice da dn dc] 25) = w11 at *
  have HS11 := hid (HS10.out.below hx11)
  have HX11 := hid (HX10.out.trans' hx11)
  have HB := hid (fun W (hW : Ext w11 W) => (cells4 ((hW.block w10.heap.size hz11).trans hn11)).1)
  clear hx11 hn11 hz11
  go_region_held3 (fun W => W.cell? ⟨w10.heap.size, 0, none⟩ = some (.int .i64 s1.i) ∧ W.cell? ⟨w10.heap.size, 1, none⟩ = some (.int .i64 s1.t) ∧ W.cell? ⟨w10.heap.size, 2, none⟩ = some (.slice va vn vc) ∧ W.cell? ⟨w10.heap.size, 3, none⟩ = some (.slice da dn dc))
    (first | exact HB.out _ (ext_drew _) | exact HB.out _ y2 | exact HB.out _ y1)
    (first | (go_at_call 42; refine Calls.mono (HONE.out _) ?_; rintro e w12 ⟨v12, rfl, hs12, hx12⟩; have y1 : Ext w11 w12 := (ext_drew _).trans' hx12; have HS12 := hid hs12; clear hs12 hx12) | (go_at_call 19; refine Calls.mono (Same_any (HS11.out.below y1) HS12.out) ?_; rintro e w13 ⟨he, hx13⟩; rw [HSR.out] at he; subst he; have y2 : Ext w11 w13 := y1.trans' hx13))
  all_goals
    go_wp2
    go_ret
    exact ⟨rfl, HX11.out.trans' y2⟩
end Go.Proofs.YtjapeaoebjmpnaaGreatDoor

/- The walk of the reference's Check. -/
namespace Go.Proofs.YtjapeaoebjmpnaaGreatDoor
open Go.RowKit Go.Maps
set_option linter.unusedVariables false
set_option linter.unusedSimpArgs false
attribute [local go_sem] bmax2 bmin2 bmax_two bmin_two

set_option maxRecDepth 100000 in
set_option maxHeartbeats 4000000 in
theorem RCheck_any {F : Nat → Prop} {w : World} {v : Value} {s : Sn} (h : SnV F w v s) :
    Calls Tryz.prog 13 #[v] w (fun e w' => e = .returned (.int .i64 (checkS s)) ∧ Ext w w') := by
  obtain ⟨va, vn, vc, da, dn, dc, rfl, hi, ht, hv, hd⟩ := h
  obtain ⟨i, t, l, d⟩ := s
  dsimp only at *
  obtain ⟨i0, i1⟩ := hi
  obtain ⟨t0, t1⟩ := ht
  have hdn : dn = d.length := hd.1
  have hd47 : dn ≤ 140737488351232 := hd.2.2.1.2
  have hvn : vn = l.length := hv.1
  have hv47 : vn ≤ 1000000000000000 := by have := hv.2.2.1.2; omega
  have HV := hid (hv.below (ext_alloc w (.cells #[.int .i64 i, .int .i64 t, .slice va vn vc, .slice da dn dc] 25)))
  have HN := hid hvn
  obtain ⟨R, hR⟩ : ∃ R, R = votersB l := ⟨_, rfl⟩
  have hc : checkS ⟨i, t, l, d⟩ = if R = false ∨ i < 1 ∨ 1099511627776 < i ∨ t < 1 ∨ 1099511627776 < t then 60 else if 262144 < (dn : Int) then 4 else 0 := by
    unfold checkS
    dsimp only
    rw [← hR]
    by_cases h1 : R = false ∨ i < 1 ∨ 1099511627776 < i ∨ t < 1 ∨ 1099511627776 < t
    · rw [if_pos h1, if_pos (by rcases h1 with h | h | h | h | h <;> simp [h])]
    rw [if_neg h1, if_neg (by rintro (h | h | h | h | h) <;> exact h1 (by simp [h]))]
    by_cases h2 : 262144 < d.length
    · rw [if_pos h2, if_pos (by omega)]
    rw [if_neg h2, if_neg (by omega)]
  obtain ⟨C, hC⟩ : ∃ C, C = checkS ⟨i, t, l, d⟩ := ⟨_, rfl⟩
  rw [← hC] at hc ⊢
  have HC := hid hc
  have HR := hid hR
  clear hv hd hvn hR hc hC hdn
  go_enter Tryz.func13, Tryz.ntmps13
  go_wp2
  go_loop [3, 5, 9] (fun x _ z => ∃ (k : Nat) (p : Int), k ≤ vn ∧ z = .int .i64 k ∧ x = .int .i64 p ∧ Hid (R = (votG p (l.drop k) && !l.isEmpty)) ∧ -1 ≤ p ∧ p ≤ 6 ∧ (k = 0 → p = -1) ∧ (0 < k → 0 ≤ p)) (fun _ _ z => vn - (intOf z).toNat)
  case atStart => exact ⟨0, -1, Nat.zero_le _, rfl, rfl, HR.out, by omega, by omega, fun _ => rfl, fun h => by omega⟩
  obtain ⟨k, p, hk, rfl, rfl, HQ, hp, hp6, hp0, hp1⟩ := hrel
  by_cases hlt : k < vn
  · obtain ⟨b, o, rfl, hbl, hkl, q, hin⟩ := HV.out.at_ hlt
    have hd : l.drop k = l[k] :: l.drop (k + 1) := List.drop_eq_getElem_cons hkl
    obtain ⟨x, hx⟩ : ∃ x, x = l[k] := ⟨_, rfl⟩
    rw [← hx] at hd q hin
    have hq := HQ.out
    rw [hd] at hq
    have HD := hid (show R = (decide (p < x ∧ x ≤ 6) && votG x (l.drop (k + 1)) && !l.isEmpty) from hq)
    obtain ⟨hin1, hin2⟩ := hin
    clear hd hx hq HQ
    by_cases hx : p < x ∧ x ≤ 6
    · obtain ⟨hx1, hx2⟩ := hx
      have HD2 := hid (show R = (votG x (l.drop (k + 1)) && !l.isEmpty) by rw [HD.out, decide_eq_true (⟨hx1, hx2⟩ : p < x ∧ x ≤ 6), Bool.true_and])
      have hb1 : decide (x ≤ p) = false := by simp; omega
      have hb2 : decide (6 < x) = false := by simp; omega
      go_wp2
      refine ⟨⟨k + 1, x, by omega, by go_num, rfl, HD2, by omega, by omega, fun h => by omega, fun _ => by omega⟩, ?_⟩
      simp [intOf]; omega
    have HD2 := hid (show C = 60 by
      rw [HC.out, if_pos (.inl (by rw [HD.out, decide_eq_false hx, Bool.false_and, Bool.false_and]))])
    by_cases hx1 : x ≤ p
    · have hb1 : decide (x ≤ p) = true := by simpa using hx1
      clear hx
      go_wp2
      go_ret
      exact ⟨by rw [HD2.out]; rfl, ext_alloc _ _⟩
    have hb1 : decide (x ≤ p) = false := by simpa using hx1
    have hb2 : decide (6 < x) = true := by simp; omega
    clear hx
    go_wp2
    go_ret
    exact ⟨by rw [HD2.out]; rfl, ext_alloc _ _⟩
  obtain rfl : k = vn := by omega
  have hq := HQ.out
  rw [List.drop_of_length_le (by rw [HN.out]; exact Nat.le_refl _)] at hq
  have HQ2 := hid (show R = decide (0 < k) by
    rw [hq, HN.out]
    show (true && !l.isEmpty) = _
    cases l <;> simp)
  clear hq HQ
  by_cases h1 : p < 0
  · have hk0 : k = 0 := by
      rcases Nat.eq_zero_or_pos k with h | h
      · exact h
      have := hp1 h; omega
    have hb : decide (p < 0) = true := by simpa using h1
    have HD2 := hid (show C = 60 by rw [HC.out, if_pos (.inl (by rw [HQ2.out]; simp [hk0]))])
    clear hk0 hp0 hp1
    go_wp2
    go_ret
    exact ⟨by rw [HD2.out]; rfl, ext_alloc _ _⟩
  have hkp : 0 < k := by
    rcases Nat.eq_zero_or_pos k with h | h
    · have := hp0 h; omega
    exact h
  have hb : decide (p < 0) = false := by simpa using h1
  have hrt : R = true := by rw [HQ2.out]; simpa using hkp
  have hcc := HC.out
  rw [hrt] at hcc
  simp only [Bool.true_eq_false, false_or] at hcc
  have HCC := hid hcc
  clear hrt hcc hkp hp0 hp1
  by_cases g1 : i < 1
  · have HD2 := hid (show C = 60 by rw [HCC.out, if_pos (.inl g1)])
    go_wp2
    go_ret
    exact ⟨by rw [HD2.out]; rfl, ext_alloc _ _⟩
  by_cases g2 : 1099511627776 < i
  · have HD2 := hid (show C = 60 by rw [HCC.out, if_pos (.inr (.inl g2))])
    go_wp2
    go_ret
    exact ⟨by rw [HD2.out]; rfl, ext_alloc _ _⟩
  by_cases g3 : t < 1
  · have HD2 := hid (show C = 60 by rw [HCC.out, if_pos (.inr (.inr (.inl g3)))])
    go_wp2
    go_ret
    exact ⟨by rw [HD2.out]; rfl, ext_alloc _ _⟩
  by_cases g4 : 1099511627776 < t
  · have HD2 := hid (show C = 60 by rw [HCC.out, if_pos (.inr (.inr (.inr g4)))])
    go_wp2
    go_ret
    exact ⟨by rw [HD2.out]; rfl, ext_alloc _ _⟩
  have hno : ¬ (i < 1 ∨ 1099511627776 < i ∨ t < 1 ∨ 1099511627776 < t) := by omega
  by_cases g5 : 262144 < (dn : Int)
  · have HD2 := hid (show C = 4 by rw [HCC.out, if_neg hno, if_pos g5])
    clear hno
    go_wp2
    go_ret
    exact ⟨by rw [HD2.out]; rfl, ext_alloc _ _⟩
  have HD2 := hid (show C = 0 by rw [HCC.out, if_neg hno, if_neg g5])
  clear hno
  go_wp2
  go_ret
  exact ⟨by rw [HD2.out]; rfl, ext_alloc _ _⟩
end Go.Proofs.YtjapeaoebjmpnaaGreatDoor
