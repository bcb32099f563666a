/- The walk of VaultTakes. Printed by gen_vt3.py. -/
import Derived.Test.YtjapeaoebjmpnaaGreatDoorBVt4
import Derived.BigQuiet
import Derived.Test.YtjapeaoebjmpnaaGreatDoorBVx1
namespace Go.Proofs.YtjapeaoebjmpnaaGreatDoor
open Go.RowKit Go.Maps
set_option linter.unusedVariables false
set_option linter.unusedSimpArgs false
attribute [local go_sem] bmax2 bmin2 bmax_two bmin_two

theorem cells5p {W : World} {b : Nat} {x0 x1 x2 x3 x4 : Value} {t : TypeId} (h : W.heap[b]? = some (.cells #[x0, x1, x2, x3, x4] t (0, 0))) :
    W.cell? ⟨b, 0, none⟩ = some x0 ∧ W.cell? ⟨b, 1, none⟩ = some x1 ∧ W.cell? ⟨b, 2, none⟩ = some x2 ∧ W.cell? ⟨b, 3, none⟩ = some x3 ∧ W.cell? ⟨b, 4, none⟩ = some x4 := by
  refine ⟨?_, ?_, ?_, ?_, ?_⟩ <;> simp [World.cell?, h]
theorem InO.keep2 {F G : Nat → Prop} {w w' : World} {g : Nat} {s : IS} (h : InO F w g s) (hf : ∀ k, F k → k < w.heap.size → G k ∧ w'.heap[k]? = w.heap[k]?) (hg : w'.heap[g]? = w.heap[g]?) : InO G w' g s := by
  obtain ⟨da, dn, dc, h1, h2, h3, h4⟩ := h
  exact ⟨da, dn, dc, hg.trans h1, h2, h3, h4.keep hf⟩

set_option maxRecDepth 100000 in
set_option maxHeartbeats 8000000 in
theorem VaultTakes_calls {F : Nat → Prop} {w : World} {a : Option Addr} {n c : Nat} {l : List Pt} (hl : PtsF F w a n c l) (hT : TabP w) :
    Calls Tryz.prog 10 #[.slice a n c] w (fun e w' => e = .returned (.bool true) ∧ Ext w w') := by
  have HL := hid hl
  have HT := hid hT
  have hn63 : n ≤ 9223372036854775807 := by have h1 := hl.2.1; have h2 := hl.2.2.1; unfold maxLen at h2; omega
  have HA := hid (fun W (hW : Ext w W) => awake_any (hT.ext hW))
  clear hl hT
  go_enter Tryz.func10, Tryz.ntmps10
  go_wp2
  go_loopw [3, 4] (fun x z wr => ∃ (k m : Nat), k ≤ n ∧ k ≤ 101 ∧ z = .int .i64 (k : Int) ∧ x = .int .i64 (m : Int) ∧ m ≤ 524288 * k ∧ Hid (Ext w wr)) (fun _ z _ => 101 - (intOf z).toNat)
  case atStart => exact ⟨0, 0, Nat.zero_le _, by omega, rfl, rfl, by omega, Below.refl _ _⟩
  case round =>
    obtain ⟨k, m, hk, hk41, rfl, rfl, hm, HX⟩ := hrel
    by_cases hlt : k < n ∧ k ≤ 100
    · obtain ⟨h1, h2⟩ := hlt
      obtain ⟨b, o, rfl, -, hbl, hl, hat⟩ := (HL.out.below HX.out).at_ h1
      obtain ⟨y, hy⟩ : ∃ y, y = l[k] := ⟨_, rfl⟩
      rw [← hy] at hat
      obtain ⟨da, dn, dc, -, -, -, q3, -, -, hby⟩ := hat
      have hki : (0 : Int) ≤ (k : Int) := by omega
      have hki2 : (k : Int) < (n : Int) := by omega
      obtain ⟨m1, hm1⟩ : ∃ m1 : Nat, min (dn : Int) 524288 = (m1 : Int) := ⟨(min (dn : Int) 524288).toNat, by omega⟩
      have hb1 : m1 ≤ 524288 := by omega
      obtain ⟨m4, hm4⟩ : ∃ m4 : Nat, (m : Int) + (m1 : Int) = (m4 : Int) := ⟨m + m1, by omega⟩
      have hw4 : IntKind.i64.wrap (m4 : Int) = (m4 : Int) := IntWalk.i64_in _ ⟨by omega, by omega⟩
      have hm4b : m4 ≤ 524288 * (k + 1) := by omega
      clear hby hy hb1
      go_wp2
      go_roundw
      case rel => exact ⟨k + 1, m4, by omega, by omega, by go_num, by go_num, hm4b, HX.out⟩
      case measure => simp [intOf]; omega
    · have hcond : ¬ k < n ∨ (k < n ∧ ¬ k ≤ 100) := by
        by_cases h1 : k < n
        · exact .inr ⟨h1, fun h => hlt ⟨h1, h⟩⟩
        · exact .inl h1
      clear hlt
      by_cases g1 : n ≤ 100
      · have c1 : ¬ k < n := by omega
        clear hcond
        have d1 : decide (100 < (n : Int)) = false := by simp; omega
        by_cases g2 : m ≤ 1048576
        · have d2 : decide (1048576 < (m : Int)) = false := by simp; omega
          go_wp2
          have e1 := heap_alloc_new wr (.cells #[.int .i64 0, .int .i64 0, .slice none 0 0] 89)
          have z1 : (wr.alloc (.cells #[.int .i64 0, .int .i64 0, .slice none 0 0] 89)).heap.size = wr.heap.size + 1 := World.size_alloc ..
          have x1 := ext_alloc wr (.cells #[.int .i64 0, .int .i64 0, .slice none 0 0] 89)
          generalize wr.alloc (.cells #[.int .i64 0, .int .i64 0, .slice none 0 0] 89) = W1 at *
          have e2 := heap_alloc_new W1 (.cells #[.int .i64 0, .int .i64 0, .slice none 0 0] 96)
          have z2 : (W1.alloc (.cells #[.int .i64 0, .int .i64 0, .slice none 0 0] 96)).heap.size = W1.heap.size + 1 := World.size_alloc ..
          have x2 := ext_alloc W1 (.cells #[.int .i64 0, .int .i64 0, .slice none 0 0] 96)
          generalize W1.alloc (.cells #[.int .i64 0, .int .i64 0, .slice none 0 0] 96) = W2 at *
          rw [z1] at e2
          have e1 := (x2.block wr.heap.size (by omega)).trans e1
          have hi1 : InO (fun _ => False) W2 wr.heap.size ⟨0, 0, []⟩ := ⟨none, 0, 0, e1, ⟨by decide, by decide⟩, ⟨by decide, by decide⟩, ByF.nil_ _ _⟩
          have hi2 : RInO (fun _ => False) W2 (wr.heap.size + 1) ⟨0, 0, []⟩ := ⟨none, 0, 0, e2, ⟨by decide, by decide⟩, ⟨by decide, by decide⟩, ByF.nil_ _ _⟩
          have HI1 := hid hi1
          have HI2 := hid hi2
          have HX2 := hid (HX.out.trans' (x1.trans' x2))
          have HWZ := hid (show w.heap.size ≤ wr.heap.size from HX.out.size)
          have HW2 := hid (show wr.heap.size + 1 < W2.heap.size by omega)
          clear e1 e2 z1 z2 x1 x2 hi1 hi2 HX d1 d2 g2 hm
          generalize wr.heap.size = gi at *
          generalize wr = wy at *
          go_loopw [8, 9, 10, 11, 12, 13, 14, 15, 16, 17, 49] (fun _ _ _ _ _ _ _ _ _ _ z W => ∃ (j : Nat) (st : IS) (G1 G2 : Nat → Prop), j ≤ n ∧ z = .int .i64 (j : Int) ∧ Hid (InO G1 W gi st) ∧ Hid (RInO G2 W (gi + 1) st) ∧ Hid (∀ q, G1 q → q ≠ gi ∧ q ≠ gi + 1) ∧ Hid (∀ q, G2 q → q ≠ gi ∧ q ≠ gi + 1) ∧ Hid (gi + 1 < W.heap.size) ∧ Hid (Ext w W)) (fun _ _ _ _ _ _ _ _ _ _ z _ => n - (intOf z).toNat)
          case atStart => exact ⟨0, ⟨0, 0, []⟩, fun _ => False, fun _ => False, by omega, rfl, HI1.out, HI2.out, hid (fun q h => h.elim), hid (fun q h => h.elim), HW2.out, HX2.out⟩
          case round =>
            obtain ⟨j, st, G1, G2, hj, rfl, HO1, HO2, HG1, HG2, HGZ, HX⟩ := hrel
            by_cases hlt : j < n
            · obtain ⟨b, o, rfl, -, hbl, hl, hat⟩ := HL.out.at_ hlt
              obtain ⟨y, hy⟩ : ∃ y, y = l[j] := ⟨_, rfl⟩
              rw [← hy] at hat
              obtain ⟨da, dn, dc, q0, q1, q2, q3, q4, ⟨i0, i1, i2⟩, hby⟩ := hat
              have qc : ∀ i, wr.cell? ⟨b, i, none⟩ = w.cell? ⟨b, i, none⟩ := fun i => HX.out.cell (p := ⟨b, i, none⟩) hbl
              have q0 := (qc _).trans q0
              have q1 := (qc _).trans q1
              have q2 := (qc _).trans q2
              have q3 := (qc _).trans q3
              have q4 := (qc _).trans q4
              have HBY := hid (fun W' (hW : Ext w W') => hby.lt.below hW)
              have HDN := hid (show dn = y.d.length from hby.1)
              have HD47 := hid (show dn ≤ 140737488351232 from hby.2.2.1.2)
              have HI := hid (show In64 y.i ∧ In64 y.t from ⟨i0, i1⟩)
              have hki : (0 : Int) ≤ (j : Int) := by omega
              have hki2 : (j : Int) < (n : Int) := by omega
              clear hy hby qc hbl i0 i1 i2
              go_wp2_with fail
              have e3 := heap_alloc_new wr (.cells #[.int .i64 y.i, .int .i64 y.t, .int .i64 y.k, .slice da dn dc, .bool y.done] 93)
              have z3 : (wr.alloc (.cells #[.int .i64 y.i, .int .i64 y.t, .int .i64 y.k, .slice da dn dc, .bool y.done] 93)).heap.size = wr.heap.size + 1 := World.size_alloc ..
              have x3 := ext_alloc wr (.cells #[.int .i64 y.i, .int .i64 y.t, .int .i64 y.k, .slice da dn dc, .bool y.done] 93)
              generalize wr.alloc (.cells #[.int .i64 y.i, .int .i64 y.t, .int .i64 y.k, .slice da dn dc, .bool y.done] 93) = W3 at *
              refine Calls.mono (cloneR_any (HBY.out W3 (HX.out.trans' x3))) ?_
              rintro e W4 ⟨v4, rfl, ho4, hx4⟩
              obtain ⟨ca, cc, rfl⟩ := own_slice3 ho4
              have hb4 := own_byF (d := y.d) (by rw [← HDN.out]; exact ho4) (by rw [← HDN.out]; exact HD47.out)
              have HO4 := hid ho4
              have HB4 := hid hb4
              have x34 := x3.trans' hx4
              have hpp : wr.heap.size < W3.heap.size := by omega
              have HP4 := hid ((hx4.block wr.heap.size hpp).trans e3)
              have HX4 := hid (HX.out.trans' x34)
              have HZ := hid (show wr.heap.size < W3.heap.size ∧ W3.heap.size ≤ W4.heap.size from ⟨hpp, hx4.size⟩)
              have HIN4 := hid (HO1.out.keep2 (w' := W4) (G := fun q => G1 q ∧ q < wr.heap.size) (fun q hq hl => ⟨⟨hq, hl⟩, x34.block q hl⟩) (x34.block gi (by have := HGZ.out; omega)))
              have HRN4 := hid (HO2.out.keep1 (w' := W4) (G := fun q => G2 q ∧ q < wr.heap.size) (fun q hq hl => ⟨⟨hq, hl⟩, x34.block q hl⟩) (x34.block (gi + 1) HGZ.out))
              obtain ⟨p0, p1, p2, p3, p4⟩ := cells5p HP4.out
              obtain ⟨r, hr⟩ : ∃ r, r = st.take y.i y.t y.k y.d y.done := ⟨_, rfl⟩
              have htk := Take_any HIN4.out (fun q hq => (HG1.out q hq.1).1) HB4.out (fun q hq e => by have := HGZ.out; have := HZ.out; have := hq.1; omega) y.i y.t y.k HI.out.1 HI.out.2 y.done
              rw [← hr] at htk
              have HTK := hid htk
              have HR := hid hr
              clear e3 z3 x3 ho4 hx4 hb4 x34 hpp htk hr q0 q1 q2 q3 q4 HO1 HO2
              go_wp2_with fail
              refine Calls.mono HTK.out ?_
              rintro e W5 ⟨a1, n1, c1, rfl, hb5, hin5, hf5⟩
              have HB5 := hid hb5
              have HIN5 := hid hin5
              have HF5 := hid hf5
              have HX5 := hid (ext_frm HX4.out hf5 (fun q hq => by have : q = gi := hq; have := HWZ.out; omega))
              have HP5 := hid ((hf5.block wr.heap.size (by have := HZ.out; omega) (by show ¬ _ = gi; have := HGZ.out; omega)).trans HP4.out)
              have HRN5 := hid (HRN4.out.keep1 (w' := W5) (G := fun q => G2 q ∧ q < wr.heap.size) (fun q hq hl => ⟨hq, hf5.block q hl (HG2.out q hq.1).1⟩) (hf5.block (gi + 1) (by have := HGZ.out; have := HZ.out; omega) (by show ¬ _ = gi; omega)))
              have hrt := RTake_any HRN5.out (fun q hq => (HG2.out q hq.1).2) (HBY.out W5 HX5.out) (fun q hq e => by have := hq.2; have := HWZ.out; omega) y.i y.t y.k HI.out.1 HI.out.2 y.done
              rw [← HR.out] at hrt
              have HRT := hid hrt
              clear hb5 hin5 hf5 hrt p0 p1 p2 p3 p4 HTK HIN4 HRN4
              obtain ⟨p0, p1, p2, p3, p4⟩ := cells5p HP5.out
              go_wp2_with fail
              refine Calls.mono HRT.out ?_
              rintro e W6 ⟨a2, n2, c2, rfl, hb6, hin6, hf6⟩
              have HX6 := hid (ext_frm HX5.out hf6 (fun q hq => by have : q = gi + 1 := hq; have := HWZ.out; omega))
              have hz46 := HF5.out.size
              have HZ6 := hid (show W4.heap.size ≤ W5.heap.size ∧ W5.heap.size ≤ W6.heap.size from ⟨hz46, hf6.size⟩)
              have HIN6 := hid (HIN5.out.keep2 (w' := W6) (G := fun q => (G1 q ∧ q < wr.heap.size) ∨ (W4.heap.size ≤ q ∧ q < W5.heap.size)) (fun q hq hl => ⟨hq, hf6.block q hl (by
                show ¬ q = gi + 1
                rcases hq with hq | hq
                · exact (HG1.out q hq.1).2
                · have := hq.1; have := HGZ.out; have := HZ.out; omega)⟩) (hf6.block gi (by have := HGZ.out; have := HZ.out; omega) (by show ¬ gi = gi + 1; omega)))
              have HRN6 := hid hin6
              have HB6 := hid hb6
              have HB56 := hid (HB5.out.frm hf6 (fun q hq e => by have : q = gi + 1 := e; have := hq.1; have := HGZ.out; have := HZ.out; omega))
              have HP6 := hid ((hf6.block wr.heap.size (by have := HZ.out; omega) (by show ¬ _ = gi + 1; have := HGZ.out; omega)).trans HP5.out)
              have HR8 := hid (((Row8.of_own HO4.out HDN.out).keep (E := fun q => W3.heap.size ≤ q ∧ q < W4.heap.size) (fun q hq hl => ⟨hq, HF5.out.block q hl (by show ¬ q = gi; have := hq.1; have := HGZ.out; have := HZ.out; omega)⟩) HF5.out.size).keep (E := fun q => W3.heap.size ≤ q ∧ q < W4.heap.size) (fun q hq hl => ⟨hq, hf6.block q hl (by show ¬ q = gi + 1; have := hq.1; have := HGZ.out; have := HZ.out; omega)⟩) hf6.size)
              obtain ⟨ra, rn, rc, hrb, hri, hrt, hrby⟩ := hin6
              obtain ⟨⟨u0, u1, u2⟩, -, -⟩ := cells3 hrb
              have HRN := hid (show rn = r.2.d.length from hrby.1)
              clear hb6 hf6 hrb hri hrt hrby hz46 p0 p1 p2 p3 p4 HRT HRN5 HIN5
              obtain ⟨p0, p1, p2, p3, p4⟩ := cells5p HP6.out
              by_cases hm1 : r.2.i = y.i
              · have hb1 : (r.2.i == y.i) = true := by simpa using hm1
                by_cases hm2 : r.2.t = y.t
                · have hb2 : (r.2.t == y.t) = true := by simpa using hm2
                  have HM := hid (show y.i = r.2.i ∧ y.t = r.2.t from ⟨hm1.symm, hm2.symm⟩)
                  go_wp2
                  refine wp_region_quiet_lit (by kernel_rfl) (by kernel_rfl) ?_
                  repeat (any_goals (first | go_big_quiet_step (fail) | quiet_step (fail)))
                  refine wpQuiet_nil ?_
                  intro wq hwq
                  obtain ⟨nq, hwq⟩ := hwq
                  subst hwq
                  go_wp2
                  generalize wr = wz at *
                  go_loopw [17, 109] (fun _ z W => ∃ k : Nat, k ≤ dn ∧ z = .int .i64 (k : Int) ∧ Hid (Row8 (fun q => W3.heap.size ≤ q ∧ q < W4.heap.size) W ca dn) ∧ Hid (Frm (fun q => W3.heap.size ≤ q ∧ q < W4.heap.size) W6 W)) (fun _ z _ => dn - (intOf z).toNat)
                  case atStart => exact ⟨0, by omega, rfl, hid (HR8.out.keep (fun q hq hl => ⟨hq, (ext_drewN W6 nq).block q hl⟩) (ext_drewN W6 nq).size), hid (Frm.of_ext (ext_drewN W6 nq) _)⟩
                  case round =>
                    obtain ⟨k3, hk3, rfl, HRK, HFK⟩ := hrel
                    by_cases hlt3 : k3 < dn
                    · obtain ⟨b3, v3, rfl, hD3, hbl3, c3, f3⟩ := HRK.out k3 hlt3
                      have hk0 : (0 : Int) ≤ (k3 : Int) := by omega
                      have hk1 : (k3 : Int) < (dn : Int) := by omega
                      have hd47 : dn ≤ 140737488351232 := HD47.out
                      have HD3 := hid hD3
                      clear hD3
                      go_wp2
                      go_roundw
                      case rel => exact ⟨k3 + 1, by omega, by go_num, hid (HRK.out.set hlt3 _), hid (HFK.out.trans (frm_set (D := fun q => W3.heap.size ≤ q ∧ q < W4.heap.size) HD3.out _) fun q hq => .inl hq)⟩
                      case measure => simp [intOf]; omega
                    · have hbe := beq_any (HB56.out.frm HFK.out (fun q hq h => by have := hq.1; have := h.2; omega)) (HB6.out.frm HFK.out (fun q hq h => by have := hq.1; have := h.2; have := HZ6.out; omega))
                      rw [show (r.1.1 == r.1.1) = true from beq_self_eq_true _] at hbe
                      have HBE := hid hbe
                      have hnD : ∀ q, q < W3.heap.size → ¬ (W3.heap.size ≤ q ∧ q < W4.heap.size) := fun q hq h => by omega
                      have hg1 : gi < W3.heap.size := by have := HGZ.out; have := HZ.out; omega
                      have hg2 : gi + 1 < W3.heap.size := by have := HGZ.out; have := HZ.out; omega
                      have hge : W3.heap.size ≤ W6.heap.size := by have := HZ.out; have := HZ6.out; omega
                      have HINW := hid (HIN6.out.keep2 (w' := wr) (G := fun q => (G1 q ∧ q < wz.heap.size) ∨ (W4.heap.size ≤ q ∧ q < W5.heap.size)) (fun q hq hl => ⟨hq, HFK.out.block q hl (by
                        rcases hq with hq | hq
                        · exact hnD q (by have := hq.2; have := HZ.out; omega)
                        · exact fun h => by have := hq.1; have := h.2; omega)⟩) (HFK.out.block gi (by omega) (hnD gi hg1)))
                      have HRNW := hid (HRN6.out.keep1 (w' := wr) (G := fun q => (G2 q ∧ q < wz.heap.size) ∨ (W5.heap.size ≤ q ∧ q < W6.heap.size)) (fun q hq hl => ⟨hq, HFK.out.block q hl (by
                        rcases hq with hq | hq
                        · exact hnD q (by have := hq.2; have := HZ.out; omega)
                        · exact fun h => by have := hq.1; have := h.2; have := HZ6.out; omega)⟩) (HFK.out.block (gi + 1) (by omega) (hnD (gi + 1) hg2)))
                      have HXW := hid (ext_frm HX6.out HFK.out (fun q hq => by have := hq.1; have := HZ.out; have := HX.out.size; omega))
                      have HPW := hid ((HFK.out.block wz.heap.size (by have := HZ.out; omega) (hnD _ HZ.out.1)).trans HP6.out)
                      have HSZ := hid (show gi + 1 < wr.heap.size from by have := HFK.out.size; omega)
                      have hhv := Have_any HINW.out y.i y.t
                      rw [show IS.have_ r.2 y.i y.t = (rn : Int) from by unfold IS.have_; rw [if_pos HM.out, HRN.out]] at hhv
                      have HHV := hid hhv
                      clear hbe hnD hg1 hg2 hge hhv p0 p1 p2 p3 p4 u0 u1 u2
                      obtain ⟨p0, p1, p2, p3, p4⟩ := cells5p HPW.out
                      go_wp2_with fail
                      refine Calls.mono HBE.out ?_
                      rintro e w8 ⟨rfl, hw8⟩
                      subst hw8
                      go_wp2_with fail
                      refine Calls.mono HHV.out ?_
                      rintro e w9 ⟨rfl, hw9⟩
                      subst hw9
                      go_wp2
                      go_roundw
                      case rel => exact ⟨j + 1, r.2, _, _, by omega, by go_num, HINW, HRNW, hid (fun q hq => by
                        rcases hq with hq | hq
                        · exact HG1.out q hq.1
                        · have := hq.1; have := HGZ.out; have := HZ.out; omega), hid (fun q hq => by
                        rcases hq with hq | hq
                        · exact HG2.out q hq.1
                        · have := hq.1; have := HGZ.out; have := HZ.out; have := HZ6.out; omega), HSZ, HXW⟩
                      case measure => simp [intOf]; omega
                · have hb2 : (r.2.t == y.t) = false := by simpa using hm2
                  have HM := hid (show ¬ (y.i = r.2.i ∧ y.t = r.2.t) from fun h => hm2 h.2.symm)
                  go_wp2
                  refine wp_region_quiet_lit (by kernel_rfl) (by kernel_rfl) ?_
                  repeat (any_goals (first | go_big_quiet_step (fail) | quiet_step (fail)))
                  refine wpQuiet_nil ?_
                  intro wq hwq
                  obtain ⟨nq, hwq⟩ := hwq
                  subst hwq
                  go_wp2
                  generalize wr = wz at *
                  go_loopw [17, 109] (fun _ z W => ∃ k : Nat, k ≤ dn ∧ z = .int .i64 (k : Int) ∧ Hid (Row8 (fun q => W3.heap.size ≤ q ∧ q < W4.heap.size) W ca dn) ∧ Hid (Frm (fun q => W3.heap.size ≤ q ∧ q < W4.heap.size) W6 W)) (fun _ z _ => dn - (intOf z).toNat)
                  case atStart => exact ⟨0, by omega, rfl, hid (HR8.out.keep (fun q hq hl => ⟨hq, (ext_drewN W6 nq).block q hl⟩) (ext_drewN W6 nq).size), hid (Frm.of_ext (ext_drewN W6 nq) _)⟩
                  case round =>
                    obtain ⟨k3, hk3, rfl, HRK, HFK⟩ := hrel
                    by_cases hlt3 : k3 < dn
                    · obtain ⟨b3, v3, rfl, hD3, hbl3, c3, f3⟩ := HRK.out k3 hlt3
                      have hk0 : (0 : Int) ≤ (k3 : Int) := by omega
                      have hk1 : (k3 : Int) < (dn : Int) := by omega
                      have hd47 : dn ≤ 140737488351232 := HD47.out
                      have HD3 := hid hD3
                      clear hD3
                      go_wp2
                      go_roundw
                      case rel => exact ⟨k3 + 1, by omega, by go_num, hid (HRK.out.set hlt3 _), hid (HFK.out.trans (frm_set (D := fun q => W3.heap.size ≤ q ∧ q < W4.heap.size) HD3.out _) fun q hq => .inl hq)⟩
                      case measure => simp [intOf]; omega
                    · have hbe := beq_any (HB56.out.frm HFK.out (fun q hq h => by have := hq.1; have := h.2; omega)) (HB6.out.frm HFK.out (fun q hq h => by have := hq.1; have := h.2; have := HZ6.out; omega))
                      rw [show (r.1.1 == r.1.1) = true from beq_self_eq_true _] at hbe
                      have HBE := hid hbe
                      have hnD : ∀ q, q < W3.heap.size → ¬ (W3.heap.size ≤ q ∧ q < W4.heap.size) := fun q hq h => by omega
                      have hg1 : gi < W3.heap.size := by have := HGZ.out; have := HZ.out; omega
                      have hg2 : gi + 1 < W3.heap.size := by have := HGZ.out; have := HZ.out; omega
                      have hge : W3.heap.size ≤ W6.heap.size := by have := HZ.out; have := HZ6.out; omega
                      have HINW := hid (HIN6.out.keep2 (w' := wr) (G := fun q => (G1 q ∧ q < wz.heap.size) ∨ (W4.heap.size ≤ q ∧ q < W5.heap.size)) (fun q hq hl => ⟨hq, HFK.out.block q hl (by
                        rcases hq with hq | hq
                        · exact hnD q (by have := hq.2; have := HZ.out; omega)
                        · exact fun h => by have := hq.1; have := h.2; omega)⟩) (HFK.out.block gi (by omega) (hnD gi hg1)))
                      have HRNW := hid (HRN6.out.keep1 (w' := wr) (G := fun q => (G2 q ∧ q < wz.heap.size) ∨ (W5.heap.size ≤ q ∧ q < W6.heap.size)) (fun q hq hl => ⟨hq, HFK.out.block q hl (by
                        rcases hq with hq | hq
                        · exact hnD q (by have := hq.2; have := HZ.out; omega)
                        · exact fun h => by have := hq.1; have := h.2; have := HZ6.out; omega)⟩) (HFK.out.block (gi + 1) (by omega) (hnD (gi + 1) hg2)))
                      have HXW := hid (ext_frm HX6.out HFK.out (fun q hq => by have := hq.1; have := HZ.out; have := HX.out.size; omega))
                      have HPW := hid ((HFK.out.block wz.heap.size (by have := HZ.out; omega) (hnD _ HZ.out.1)).trans HP6.out)
                      have HSZ := hid (show gi + 1 < wr.heap.size from by have := HFK.out.size; omega)
                      have hhv := Have_any HINW.out y.i y.t
                      rw [show IS.have_ r.2 y.i y.t = 0 from by unfold IS.have_; rw [if_neg HM.out]] at hhv
                      have HHV := hid hhv
                      clear hbe hnD hg1 hg2 hge hhv p0 p1 p2 p3 p4 u0 u1 u2
                      obtain ⟨p0, p1, p2, p3, p4⟩ := cells5p HPW.out
                      go_wp2_with fail
                      refine Calls.mono HBE.out ?_
                      rintro e w8 ⟨rfl, hw8⟩
                      subst hw8
                      go_wp2_with fail
                      refine Calls.mono HHV.out ?_
                      rintro e w9 ⟨rfl, hw9⟩
                      subst hw9
                      go_wp2
                      go_roundw
                      case rel => exact ⟨j + 1, r.2, _, _, by omega, by go_num, HINW, HRNW, hid (fun q hq => by
                        rcases hq with hq | hq
                        · exact HG1.out q hq.1
                        · have := hq.1; have := HGZ.out; have := HZ.out; omega), hid (fun q hq => by
                        rcases hq with hq | hq
                        · exact HG2.out q hq.1
                        · have := hq.1; have := HGZ.out; have := HZ.out; have := HZ6.out; omega), HSZ, HXW⟩
                      case measure => simp [intOf]; omega
              · have hb1 : (r.2.i == y.i) = false := by simpa using hm1
                have HM := hid (show ¬ (y.i = r.2.i ∧ y.t = r.2.t) from fun h => hm1 h.1.symm)
                go_wp2
                refine wp_region_quiet_lit (by kernel_rfl) (by kernel_rfl) ?_
                repeat (any_goals (first | go_big_quiet_step (fail) | quiet_step (fail)))
                refine wpQuiet_nil ?_
                intro wq hwq
                obtain ⟨nq, hwq⟩ := hwq
                subst hwq
                go_wp2
                generalize wr = wz at *
                go_loopw [17, 109] (fun _ z W => ∃ k : Nat, k ≤ dn ∧ z = .int .i64 (k : Int) ∧ Hid (Row8 (fun q => W3.heap.size ≤ q ∧ q < W4.heap.size) W ca dn) ∧ Hid (Frm (fun q => W3.heap.size ≤ q ∧ q < W4.heap.size) W6 W)) (fun _ z _ => dn - (intOf z).toNat)
                case atStart => exact ⟨0, by omega, rfl, hid (HR8.out.keep (fun q hq hl => ⟨hq, (ext_drewN W6 nq).block q hl⟩) (ext_drewN W6 nq).size), hid (Frm.of_ext (ext_drewN W6 nq) _)⟩
                case round =>
                  obtain ⟨k3, hk3, rfl, HRK, HFK⟩ := hrel
                  by_cases hlt3 : k3 < dn
                  · obtain ⟨b3, v3, rfl, hD3, hbl3, c3, f3⟩ := HRK.out k3 hlt3
                    have hk0 : (0 : Int) ≤ (k3 : Int) := by omega
                    have hk1 : (k3 : Int) < (dn : Int) := by omega
                    have hd47 : dn ≤ 140737488351232 := HD47.out
                    have HD3 := hid hD3
                    clear hD3
                    go_wp2
                    go_roundw
                    case rel => exact ⟨k3 + 1, by omega, by go_num, hid (HRK.out.set hlt3 _), hid (HFK.out.trans (frm_set (D := fun q => W3.heap.size ≤ q ∧ q < W4.heap.size) HD3.out _) fun q hq => .inl hq)⟩
                    case measure => simp [intOf]; omega
                  · have hbe := beq_any (HB56.out.frm HFK.out (fun q hq h => by have := hq.1; have := h.2; omega)) (HB6.out.frm HFK.out (fun q hq h => by have := hq.1; have := h.2; have := HZ6.out; omega))
                    rw [show (r.1.1 == r.1.1) = true from beq_self_eq_true _] at hbe
                    have HBE := hid hbe
                    have hnD : ∀ q, q < W3.heap.size → ¬ (W3.heap.size ≤ q ∧ q < W4.heap.size) := fun q hq h => by omega
                    have hg1 : gi < W3.heap.size := by have := HGZ.out; have := HZ.out; omega
                    have hg2 : gi + 1 < W3.heap.size := by have := HGZ.out; have := HZ.out; omega
                    have hge : W3.heap.size ≤ W6.heap.size := by have := HZ.out; have := HZ6.out; omega
                    have HINW := hid (HIN6.out.keep2 (w' := wr) (G := fun q => (G1 q ∧ q < wz.heap.size) ∨ (W4.heap.size ≤ q ∧ q < W5.heap.size)) (fun q hq hl => ⟨hq, HFK.out.block q hl (by
                      rcases hq with hq | hq
                      · exact hnD q (by have := hq.2; have := HZ.out; omega)
                      · exact fun h => by have := hq.1; have := h.2; omega)⟩) (HFK.out.block gi (by omega) (hnD gi hg1)))
                    have HRNW := hid (HRN6.out.keep1 (w' := wr) (G := fun q => (G2 q ∧ q < wz.heap.size) ∨ (W5.heap.size ≤ q ∧ q < W6.heap.size)) (fun q hq hl => ⟨hq, HFK.out.block q hl (by
                      rcases hq with hq | hq
                      · exact hnD q (by have := hq.2; have := HZ.out; omega)
                      · exact fun h => by have := hq.1; have := h.2; have := HZ6.out; omega)⟩) (HFK.out.block (gi + 1) (by omega) (hnD (gi + 1) hg2)))
                    have HXW := hid (ext_frm HX6.out HFK.out (fun q hq => by have := hq.1; have := HZ.out; have := HX.out.size; omega))
                    have HPW := hid ((HFK.out.block wz.heap.size (by have := HZ.out; omega) (hnD _ HZ.out.1)).trans HP6.out)
                    have HSZ := hid (show gi + 1 < wr.heap.size from by have := HFK.out.size; omega)
                    have hhv := Have_any HINW.out y.i y.t
                    rw [show IS.have_ r.2 y.i y.t = 0 from by unfold IS.have_; rw [if_neg HM.out]] at hhv
                    have HHV := hid hhv
                    clear hbe hnD hg1 hg2 hge hhv p0 p1 p2 p3 p4 u0 u1 u2
                    obtain ⟨p0, p1, p2, p3, p4⟩ := cells5p HPW.out
                    go_wp2_with fail
                    refine Calls.mono HBE.out ?_
                    rintro e w8 ⟨rfl, hw8⟩
                    subst hw8
                    go_wp2_with fail
                    refine Calls.mono HHV.out ?_
                    rintro e w9 ⟨rfl, hw9⟩
                    subst hw9
                    go_wp2
                    go_roundw
                    case rel => exact ⟨j + 1, r.2, _, _, by omega, by go_num, HINW, HRNW, hid (fun q hq => by
                      rcases hq with hq | hq
                      · exact HG1.out q hq.1
                      · have := hq.1; have := HGZ.out; have := HZ.out; omega), hid (fun q hq => by
                      rcases hq with hq | hq
                      · exact HG2.out q hq.1
                      · have := hq.1; have := HGZ.out; have := HZ.out; have := HZ6.out; omega), HSZ, HXW⟩
                    case measure => simp [intOf]; omega
            · go_wp2_with fail
              refine Calls.mono (HA.out _ HX.out) ?_
              rintro e w2 ⟨rfl, hx2⟩
              go_wp2
              go_ret
              exact ⟨rfl, HX.out.trans' hx2⟩
        · have d2 : decide (1048576 < (m : Int)) = true := by simp; omega
          go_wp2_with fail
          refine Calls.mono (HA.out wr HX.out) ?_
          rintro e w2 ⟨rfl, hx2⟩
          go_wp2
          go_ret
          exact ⟨rfl, HX.out.trans' hx2⟩
      · have d1 : decide (100 < (n : Int)) = true := by simp; omega
        rcases hcond with c1 | ⟨c1, c2⟩
        all_goals
          go_wp2_with fail
          refine Calls.mono (HA.out wr HX.out) ?_
          rintro e w2 ⟨rfl, hx2⟩
          go_wp2
          go_ret
          exact ⟨rfl, HX.out.trans' hx2⟩
end Go.Proofs.YtjapeaoebjmpnaaGreatDoor
