/- The walk of VaultNewer. Printed by gen_vl9.py. -/
import Derived.Test.YtjapeaoebjmpnaaGreatDoorBVl8
namespace Go.Proofs.YtjapeaoebjmpnaaGreatDoor
open Go.RowKit Go.Maps
set_option linter.unusedVariables false
set_option linter.unusedSimpArgs false
attribute [local go_sem] bmax2 bmin2 bmax_two bmin_two

/-- What a save leads to, at a calm vault with much room. -/
structure CalmV (v : VS) : Prop where
  calm : Calm v 300000
  room : v.d.room = 16777216
  len : v.some = true → v.s.d.length ≤ 70000
theorem CalmV.ok {v : VS} (h : CalmV v) : v.Ok := ⟨h.calm.ok, h.calm.s⟩
theorem CalmV.new : CalmV ⟨sn0, false, DS.new 16777216⟩ := ⟨by
  have := calm_new (room := 16777216) (by decide) (by decide)
  exact ⟨this.ok, this.off, this.left, this.seen, Nat.le_trans this.last (by decide), this.acts, this.s⟩, rfl, fun h => by cases h⟩
theorem file70 {s : Sn} (h : checkS s = 0) (hl : s.d.length ≤ 70000) : (fileB s).length ≤ 80000 := by
  have := fileB_le (checkS_ok h).2.2.2.1
  omega
theorem CalmV.save {v : VS} (h : CalmV v) {s : Sn} (hs : checkS s = 0) (hn : v.some = true → v.s.i < s.i) (hl : s.d.length ≤ 70000) : ∃ d', saveS v s = (0, ⟨s, true, d'⟩) ∧ CalmV ⟨s, true, d'⟩ := by
  have h1 := file70 hs hl
  obtain ⟨d', e1, e2, e3, -⟩ := save_calm h.calm hs hn (by rw [h.room]; omega)
  refine ⟨d', e1, ⟨e2.ok, e2.off, e2.left, e2.seen, Nat.le_trans e2.last ?_, e2.acts, e2.s⟩, e3.trans h.room, fun _ => hl⟩
  split
  · rename_i hv
    have h2 := file70 (h.calm.s hv) (h.len hv)
    omega
  · omega
theorem save_bad {v : VS} {s : Sn} (hs : checkS s ≠ 0) : saveS v s = (checkS s, v) := by unfold saveS; rw [if_pos hs]
theorem save_old {v : VS} {s : Sn} (hs : checkS s = 0) (hv : v.some = true) (hi : s.i ≤ v.s.i) : saveS v s = (51, v) := by unfold saveS; rw [if_neg (by rw [hs]; simp), if_pos ⟨hv, hi⟩]
theorem KtAt.v {F : Nat → Prop} {w : World} {b o : Nat} {k : Kt} (h : KtAt F w b o k) : ∃ va vn vc da dn dc, w.cell? ⟨b, o, none⟩ = some (.int .i64 k.op) ∧ w.cell? ⟨b, o + 1, none⟩ = some (.int .i64 k.s.i) ∧ w.cell? ⟨b, o + 2, none⟩ = some (.int .i64 k.s.t) ∧ w.cell? ⟨b, o + 3, none⟩ = some (.slice va vn vc) ∧
    w.cell? ⟨b, o + 4, none⟩ = some (.slice da dn dc) ∧ w.cell? ⟨b, o + 5, none⟩ = some (.int .i64 k.size) ∧ w.cell? ⟨b, o + 6, none⟩ = some (.int .i64 k.n) ∧ w.cell? ⟨b, o + 7, none⟩ = some (.int .i64 k.keep) ∧ w.cell? ⟨b, o + 8, none⟩ = some (.int .i64 k.tear) ∧
    KtV F w (.agg #[.int .i64 k.op, .int .i64 k.s.i, .int .i64 k.s.t, .slice va vn vc, .slice da dn dc, .int .i64 k.size, .int .i64 k.n, .int .i64 k.keep, .int .i64 k.tear]) k := by
  obtain ⟨va, vn, vc, da, dn, dc, h0, h1, h2, h3, h4, h5, h6, h7, h8, ⟨g0, g1, g2, g3, g4, g5, g6⟩, h10, h11⟩ := h
  exact ⟨va, vn, vc, da, dn, dc, h0, h1, h2, h3, h4, h5, h6, h7, h8, va, vn, vc, da, dn, dc, rfl, g0, g1, g2, g3, g4, g5, g6, h10, h11⟩
theorem cells9a {W : World} {b : Nat} {x0 x1 x2 x3 x4 x5 x6 x7 x8 : Value} {t : TypeId} (h : W.heap[b]? = some (.cells #[x0, x1, x2, x3, x4, x5, x6, x7, x8] t (0, 0))) :
    W.cell? ⟨b, 0, none⟩ = some x0 ∧ W.cell? ⟨b, 1, none⟩ = some x1 ∧ W.cell? ⟨b, 2, none⟩ = some x2 ∧ W.cell? ⟨b, 3, none⟩ = some x3 ∧ W.cell? ⟨b, 4, none⟩ = some x4 ∧ W.cell? ⟨b, 5, none⟩ = some x5 ∧ W.cell? ⟨b, 6, none⟩ = some x6 ∧ W.cell? ⟨b, 7, none⟩ = some x7 ∧ W.cell? ⟨b, 8, none⟩ = some x8 := by
  refine ⟨?_, ?_, ?_, ?_, ?_, ?_, ?_, ?_, ?_⟩ <;> simp [World.cell?, h]
theorem snv_form {F : Nat → Prop} {w : World} {x0 x1 x2 x3 : Value} {s : Sn} (h : SnV F w (.agg #[x0, x1, x2, x3]) s) : ∃ va vn vc da dn dc, x0 = .int .i64 s.i ∧ x1 = .int .i64 s.t ∧ x2 = .slice va vn vc ∧ x3 = .slice da dn dc := by
  obtain ⟨va, vn, vc, da, dn, dc, e, -⟩ := h
  injection e with e
  simp only [Array.mk.injEq, List.cons.injEq, and_true] at e
  exact ⟨va, vn, vc, da, dn, dc, e.1, e.2.1, e.2.2.1, e.2.2.2⟩
theorem szN_len (k : Kt) (h : k.s.d.length ≤ 65536) : (snapS k).d.length ≤ 70000 := by
  have := (szN_eq k.size).2
  unfold snapS
  dsimp only
  rw [List.length_append, List.length_replicate]
  omega
/-- The state that was kept last, in memory of its own. -/
def BestAt (M : Nat → Prop) (w : World) (pb : Nat) (s : Sn) : Prop :=
  ∃ va vn vc da dn dc, w.heap[pb]? = some (.cells #[.int .i64 s.i, .int .i64 s.t, .slice va vn vc, .slice da dn dc] 25 (0, 0)) ∧ SnV M w (.agg #[.int .i64 s.i, .int .i64 s.t, .slice va vn vc, .slice da dn dc]) s
theorem BestAt.frm {M E : Nat → Prop} {w w' : World} {pb : Nat} {s : Sn} (h : BestAt M w pb s) (hf : Frm E w w') (h1 : ¬ E pb) (h2 : ∀ q, M q → ¬ E q) : BestAt M w' pb s := by
  obtain ⟨va, vn, vc, da, dn, dc, e1, e2⟩ := h
  exact ⟨va, vn, vc, da, dn, dc, (hf.block pb (Array.getElem?_eq_some_iff.1 e1).1 h1).trans e1, e2.keep fun q hq hl => ⟨hq, hf.block q hl (h2 q hq)⟩⟩

set_option maxRecDepth 100000 in
set_option maxHeartbeats 8000000 in
theorem VaultNewer_calls {F : Nat → Prop} {w : World} {a : Option Addr} {n c : Nat} {l : List Kt} (hl : KtsF F w a n c l) (hT : TabP w) :
    Calls Tryz.prog 4 #[.slice a n c] w (fun e w' => e = .returned (.bool true) ∧ Ext w w') := by
  have HSH := hid (short_any hl)
  have HL := hid hl
  have HT := hid hT
  have HPL := hid hT.lt
  have HN := hid hl.1
  have hn63 : n ≤ 9223372036854775807 := by have h1 := hl.2.1; have h2 := hl.2.2.1; unfold maxLen at h2; omega
  have HA := hid (fun W (hW : Ext w W) => awake_any (hT.ext hW))
  have HBE := hid (fun W (hW : Ext w W) => begun_any (hT.ext hW) (room := 16777216) (by decide) (by decide))
  clear hl hT
  go_enter Tryz.func4, Tryz.ntmps4
  go_wp2_with fail
  refine Calls.mono HSH.out ?_
  rintro e w1 ⟨b, rfl, hb, hx1⟩
  have HX1 := hid hx1
  clear hx1
  cases b with
  | false =>
    clear hb
    go_wp2_with fail
    refine Calls.mono (HA.out w1 HX1.out) ?_
    rintro e w2 ⟨rfl, hx2⟩
    go_wp2
    go_ret
    exact ⟨rfl, HX1.out.trans' hx2⟩
  | true =>
    have HSM := hid (hb rfl)
    clear hb
    go_wp2_with fail
    refine Calls.mono (HBE.out w1 HX1.out) ?_
    rintro e w2 ⟨dg, g, A, rfl, hv, hA, hx2⟩
    have HV2 := hid hv
    have HX2 := hid (HX1.out.trans' hx2)
    have HA2 := hid (fun q (hq : A q) => show w.heap.size ≤ q by have := hA q hq; have := HX1.out.size; omega)
    clear hv hA hx2
    go_wp2
    have hx3 := ext_alloc w2 (.cells #[.int .i64 0, .int .i64 0, .slice none 0 0, .slice none 0 0] 25)
    have hn3 := heap_alloc_new w2 (.cells #[.int .i64 0, .int .i64 0, .slice none 0 0, .slice none 0 0] 25)
    have hz3 : (w2.alloc (.cells #[.int .i64 0, .int .i64 0, .slice none 0 0, .slice none 0 0] 25)).heap.size = w2.heap.size + 1 := World.size_alloc ..
    generalize w2.alloc (.cells #[.int .i64 0, .int .i64 0, .slice none 0 0, .slice none 0 0] 25) = w3 at *
    obtain ⟨pb, hpb⟩ : ∃ pb, pb = w2.heap.size := ⟨_, rfl⟩
    rw [← hpb] at hn3 ⊢
    have HV3 := hid (HV2.out.below hx3)
    have HX3 := hid (HX2.out.trans' hx3)
    have HB3 := hid (show BestAt (fun _ => False) w3 pb sn0 from ⟨none, 0, 0, none, 0, 0, hn3, SnV.zero _ _⟩)
    have HPB := hid (show w.heap.size ≤ pb ∧ ¬ A pb from ⟨by have := HX2.out.size; omega, fun h => by have := HV2.out.lt pb h; omega⟩)
    have hpl : pb < w3.heap.size := by omega
    clear hx3 hn3 hz3 hpb
    go_loopw [7, 9, 10, 11, 12, 13, 14, 29] (fun x _ _ _ _ _ _ z wr => ∃ (k : Nat) (v : VS) (A M : Nat → Prop), k ≤ n ∧ z = .int .i64 (k : Int) ∧ x = .bool v.some ∧ Hid (VaAt A wr g dg v) ∧ Hid (∀ q, A q → w.heap.size ≤ q) ∧ Hid (¬ A pb) ∧ Hid (CalmV v) ∧ Hid (BestAt M wr pb v.s) ∧
        Hid (∀ q, M q → ¬ A q ∧ q ≠ pb) ∧ Hid (Ext w wr) ∧ pb < wr.heap.size) (fun _ _ _ _ _ _ _ z _ => n - (intOf z).toNat)
    case atStart => exact ⟨0, ⟨sn0, false, DS.new 16777216⟩, A, fun _ => False, Nat.zero_le _, rfl, rfl, HV3.out, HA2.out, HPB.out.2, CalmV.new, HB3.out, hid (fun q h => h.elim), HX3.out, hpl⟩
    case round =>
      obtain ⟨k, v, A, M, hk, rfl, rfl, HV, HAW, HAP, HC, HB, HM, HX, hpl⟩ := hrel
      by_cases hlt : k < n
      · obtain ⟨b, o, rfl, -, hbl, hkl, hat⟩ := HL.out.at_ hlt
        have hdl := HSM.out.2 l[k] (List.getElem_mem _)
        obtain ⟨y, hy⟩ : ∃ y, y = l[k] := ⟨_, rfl⟩
        rw [← hy] at hat hdl
        obtain ⟨ka, kn, kc, ma, mn, mc, q0, q1, q2, q3, q4, q5, q6, q7, q8, hkv⟩ := hat.v
        have qc : ∀ j, wr.cell? ⟨b, j, none⟩ = w.cell? ⟨b, j, none⟩ := fun j => HX.out.cell (p := ⟨b, j, none⟩) hbl
        have q0 := (qc _).trans q0
        have q1 := (qc _).trans q1
        have q2 := (qc _).trans q2
        have q3 := (qc _).trans q3
        have q4 := (qc _).trans q4
        have q5 := (qc _).trans q5
        have q6 := (qc _).trans q6
        have q7 := (qc _).trans q7
        have q8 := (qc _).trans q8
        have HS70 := hid (szN_len y hdl)
        have hdl2 : y.s.d.length ≤ 1000000000000 := by omega
        have hr1 := ext_alloc wr (.cells #[.int .i64 y.op, .int .i64 y.s.i, .int .i64 y.s.t, .slice ka kn kc, .slice ma mn mc, .int .i64 y.size, .int .i64 y.n, .int .i64 y.keep, .int .i64 y.tear] 38)
        have HKV := hid (fun W (hW : Ext w W) => snap_any (hkv.below hW))
        have hki : (0 : Int) ≤ (k : Int) := by omega
        have hki2 : (k : Int) < (n : Int) := by omega
        have HDL := hid hdl2
        clear hat hy hkv hdl hdl2 qc
        go_wp2_with fail
        have hn1 := heap_alloc_new wr (.cells #[.int .i64 y.op, .int .i64 y.s.i, .int .i64 y.s.t, .slice ka kn kc, .slice ma mn mc, .int .i64 y.size, .int .i64 y.n, .int .i64 y.keep, .int .i64 y.tear] 38)
        have hz1 : (wr.alloc (.cells #[.int .i64 y.op, .int .i64 y.s.i, .int .i64 y.s.t, .slice ka kn kc, .slice ma mn mc, .int .i64 y.size, .int .i64 y.n, .int .i64 y.keep, .int .i64 y.tear] 38)).heap.size = wr.heap.size + 1 := World.size_alloc ..
        generalize wr.alloc (.cells #[.int .i64 y.op, .int .i64 y.s.i, .int .i64 y.s.t, .slice ka kn kc, .slice ma mn mc, .int .i64 y.size, .int .i64 y.n, .int .i64 y.keep, .int .i64 y.tear] 38) = r1 at *
        refine Calls.mono (HKV.out r1 (HX.out.trans' hr1)) ?_
        rintro e r2 ⟨x0, x1, x2, x3, rfl, hsv, hx2⟩
        have hsv := hsv HDL.out
        obtain ⟨pa, pn, pc, da, dn, dc, rfl, rfl, rfl, rfl⟩ := snv_form hsv
        obtain ⟨s, hs⟩ : ∃ s, s = snapS y := ⟨_, rfl⟩
        rw [← hs] at hsv ⊢
        have HSV := hid hsv
        have HSE := hid hs
        have hl70 : s.d.length ≤ 70000 := by rw [hs]; exact HS70.out
        have HL70 := hid hl70
        have HR2 := hid (hr1.trans' hx2)
        have HZ1 := hid hz1
        have HP9 := hid (fun W (hW : Ext r2 W) => (hW.block wr.heap.size (by have := hx2.size; omega)).trans ((hx2.block wr.heap.size (by omega)).trans hn1))
        clear hsv hs hl70 hr1 hx2 hn1 hz1 q0 q1 q2 q3 q4 q5 q6 q7 q8
        go_wp2_with fail
        have hx3 := ext_alloc r2 (.cells #[.int .i64 s.i, .int .i64 s.t, .slice pa pn pc, .slice da dn dc] 25)
        have hn3 := heap_alloc_new r2 (.cells #[.int .i64 s.i, .int .i64 s.t, .slice pa pn pc, .slice da dn dc] 25)
        have hz3 : (r2.alloc (.cells #[.int .i64 s.i, .int .i64 s.t, .slice pa pn pc, .slice da dn dc] 25)).heap.size = r2.heap.size + 1 := World.size_alloc ..
        generalize r2.alloc (.cells #[.int .i64 s.i, .int .i64 s.t, .slice pa pn pc, .slice da dn dc] 25) = r3 at *
        have HR3 := hid (HR2.out.trans' hx3)
        have hlA := HV.out.lt
        have hsave := Save_any (HV.out.below HR3.out) HC.out.ok (by have := HC.out.calm.acts; omega) (HSV.out.below hx3) (fun q hq h => by have := hlA q h; have h1 := hq.1; have := HZ1.out; omega) (HT.out.ext (HX.out.trans' HR3.out)) (fun h => by have := HAW.out _ h; have := HPL.out; omega)
        have HP10 := hid hn3
        have HX23 := hid hx3
        have HZ3 := hid hz3
        have HLA := hid hlA
        clear hx3 hn3 hz3 hlA
        have hcase : (checkS s ≠ 0 ∨ (checkS s = 0 ∧ v.some = true ∧ s.i ≤ v.s.i)) ∨ (checkS s = 0 ∧ (v.some = true → v.s.i < s.i)) := by
          by_cases h1 : checkS s = 0
          · by_cases h2 : v.some = true ∧ s.i ≤ v.s.i
            · exact .inl (.inr ⟨h1, h2.1, h2.2⟩)
            · exact .inr ⟨h1, fun h => by
                rcases Int.lt_or_le v.s.i s.i with h3 | h3
                · exact h3
                · exact absurd ⟨h, h3⟩ h2⟩
          · exact .inl (.inl h1)
        rcases hcase with hold | ⟨hck, hnew⟩
        · have hcv : ∃ er, er ≠ 0 ∧ saveS v s = (er, v) ∧ (checkS s = 0 → v.some = true ∧ s.i ≤ v.s.i) := by
            rcases hold with h | ⟨h1, h2, h3⟩
            · exact ⟨checkS s, h, save_bad h, fun h' => absurd h' h⟩
            · exact ⟨51, by decide, save_old h1 h2 h3, fun _ => ⟨h2, h3⟩⟩
          obtain ⟨er, her, hse, hno⟩ := hcv
          rw [hse] at hsave
          have heb : (er == 0) = false := by simpa using her
          have HNO := hid hno
          clear hold her hse hno
          have HSA := hid hsave
          clear hsave
          go_wp2_with fail
          refine Calls.mono HSA.out ?_
          rintro e r4 ⟨rfl, hv4, hf4⟩
          have HV4 := hid hv4
          have HF4 := hid hf4
          have HS4 := hid ((HSV.out.below HX23.out).keep (w' := r4) (G := fun q => wr.heap.size ≤ q ∧ q < r2.heap.size) fun q hq hl => ⟨⟨by have h1 := hq.1; have := HZ1.out; omega, hq.2⟩, hf4.block q hl fun h => by have h2 := HLA.out q h; have h1 := hq.1; have := HZ1.out; omega⟩)
          have hz34 : wr.heap.size + 1 ≤ r2.heap.size := (Array.getElem?_eq_some_iff.1 (HP9.out r2 (Below.refl _ _))).1
          have HP94 := hid ((hf4.block wr.heap.size (by have := HZ3.out; omega) fun h => by have h2 := HLA.out _ h; omega).trans (HP9.out r3 HX23.out))
          have HP104 := hid ((hf4.block r2.heap.size (by have := HZ3.out; omega) fun h => by have h2 := HLA.out _ h; omega).trans HP10.out)
          have HB4 := hid ((HB.out.frm (Frm.of_ext HR3.out (fun _ => False)) (fun h => h) (fun _ _ h => h)).frm hf4 HAP.out (fun q hq => (HM.out q hq).1))
          have HG4 := hid (show ∀ q, grow A r3 r4 q → w.heap.size ≤ q ∧ q ≠ pb ∧ ¬ M q ∨ r3.heap.size ≤ q from fun q hq => by
            rcases hq with hq | hq
            · exact .inl ⟨HAW.out q hq, fun e => HAP.out (by rw [← e]; exact hq), fun h => (HM.out q h).1 hq⟩
            · exact .inr hq.1)
          have HX4 := hid (ext_frm (HX.out.trans' HR3.out) hf4 HAW.out)
          have HZ34 := hid hz34
          clear hv4 hf4 HSA HV hz34
          obtain ⟨⟨t0, t1, t2, t3⟩, -, -⟩ := cells4 HP104.out
          go_wp2_with fail
          refine Calls.mono (RCheck_any HS4.out) ?_
          rintro e r5 ⟨rfl, hx5⟩
          have HX5 := hid hx5
          have HB5 := hid (HB4.out.frm (Frm.of_ext hx5 (fun _ => False)) (fun h => h) (fun _ _ h => h))
          have e5 := (hx5.block r2.heap.size (Array.getElem?_eq_some_iff.1 HP104.out).1).trans HP104.out
          have e9 := (hx5.block wr.heap.size (Array.getElem?_eq_some_iff.1 HP94.out).1).trans HP94.out
          have HP95 := hid e9
          clear t0 t1 t2 t3 hx5
          obtain ⟨⟨t0, t1, t2, t3⟩, -, -⟩ := cells4 e5
          obtain ⟨ba, bn, bc, bd, bm, bk, hbb, hbs⟩ := HB5.out
          obtain ⟨⟨u0, u1, u2, u3⟩, ⟨f0, f1, f2, f3⟩, hpl5⟩ := cells4 hbb
          have HBB5 := hid hbb
          have HBS5 := hid hbs
          clear e5 e9 hbb hbs
          have HVL := hid (HV4.out.below HX5.out)
          have HBL := hid HB5.out
          have HGW := hid (show ∀ q, grow A r3 r4 q → w.heap.size ≤ q from fun q hq => by
            rcases HG4.out q hq with h | h
            · exact h.1
            · have := HR3.out.size; have := HX.out.size; omega)
          have HGP := hid (show ¬ grow A r3 r4 pb from fun h => by
            rcases HG4.out pb h with h | h
            · exact h.2.1 rfl
            · have := HR3.out.size; omega)
          have HMM := hid (show ∀ q, (M q ∧ q < r3.heap.size) → ¬ grow A r3 r4 q ∧ q ≠ pb from fun q hq => ⟨fun h => by
            rcases HG4.out q h with h | h
            · exact h.2.2 hq.1
            · omega, (HM.out q hq.1).2⟩)
          have HCV := hid HC.out
          have HBL := hid (show BestAt (fun q => M q ∧ q < r3.heap.size) r5 pb v.s from by
            obtain ⟨ba, bn, bc, bd, bm, bk, e1, e2⟩ := HB.out
            have e3 : SnV (fun q => M q ∧ q < r3.heap.size) wr (.agg #[.int .i64 v.s.i, .int .i64 v.s.t, .slice ba bn bc, .slice bd bm bk]) v.s := e2.keep fun q hq hl => ⟨⟨hq, by have := HR3.out.size; omega⟩, rfl⟩
            have e4 : BestAt (fun q => M q ∧ q < r3.heap.size) wr pb v.s := ⟨ba, bn, bc, bd, bm, bk, e1, e3⟩
            exact ((e4.frm (Frm.of_ext HR3.out (fun _ => False)) (fun h => h) (fun _ _ h => h)).frm HF4.out HAP.out (fun q hq => (HM.out q hq.1).1)).frm (Frm.of_ext HX5.out (fun _ => False)) (fun h => h) (fun _ _ h => h))
          by_cases hc0 : checkS s = 0
          · obtain ⟨hsm, hle⟩ := HNO.out hc0
            have hd1 : decide (v.s.i < s.i) = false := by simp; omega
            rw [hc0, hsm]
            clear hc0 hle
            obtain ⟨GL, hoL, -⟩ := VaO.of_va HVL.out
            have HLA2 := hid (Last_any hoL)
            clear hoL
            go_wp2_with fail
            refine Calls.mono HLA2.out ?_
            rintro e r8 ⟨v8, rfl, hs8, hx8⟩
            obtain ⟨na, nn, nc, ra, rn, rc, rfl, -, -, -, -⟩ := id hs8
            have HX8 := hid hx8
            have HS8 := hid hs8
            have HB8 := hid (HBL.out.frm (Frm.of_ext hx8 (fun _ => False)) (fun h => h) (fun _ _ h => h))
            obtain ⟨ba, bn, bc, bd, bm, bk, hbb, hbs⟩ := HB8.out
            have hbb9 := (ext_alloc r8 (.cells #[.int .i64 v.s.i, .int .i64 v.s.t, .slice na nn nc, .slice ra rn rc] 25)).block pb (Array.getElem?_eq_some_iff.1 hbb).1
            have HBS8 := hid hbs
            obtain ⟨⟨u0, u1, u2, u3⟩, -, hpl8⟩ := cells4 hbb
            have HSAME := hid (fun W (hW : Ext r8 W) => Same_any (hs8.below hW) (hbs.below hW))
            clear hx8 hs8 hbb hbs hbb9
            have hx9 := ext_alloc r8 (.cells #[.int .i64 v.s.i, .int .i64 v.s.t, .slice na nn nc, .slice ra rn rc] 25)
            have HX9 := hid hx9
            clear hx9
            go_wp2_with fail
            refine Calls.mono (HSAME.out _ HX9.out) ?_
            rintro e r10 ⟨he, hx10⟩
            rw [show sameS v.s v.s = true from sameS_iff.2 rfl] at he
            subst he
            have HX10 := hid (HX9.out.trans' hx10)
            clear hx10
            go_wp2
            have hz8 := HX8.out.size
            have hz10 := HX10.out.size
            go_roundw
            case rel => exact ⟨k + 1, v, grow A r3 r4, (fun q => M q ∧ q < r3.heap.size), by omega, by go_num, (by first | rfl | rw [hsm]), (HVL.out.below HX8.out).below HX10.out, HGW.out, HGP.out, HCV.out, (HB8.out.frm (Frm.of_ext HX10.out (fun _ => False)) (fun h => h) (fun _ _ h => h)), HMM.out, ((HX4.out.trans' HX5.out).trans' HX8.out).trans' HX10.out, by omega⟩
            case measure => simp [intOf]; omega
          · have hcb : (checkS s == 0) = false := by simpa using hc0
            obtain ⟨cc, hcc⟩ : ∃ cc, cc = checkS s := ⟨_, rfl⟩
            rw [← hcc] at hcb ⊢
            clear hc0 hcc
            obtain ⟨GL, hoL, -⟩ := VaO.of_va HVL.out
            have HLA2 := hid (Last_any hoL)
            clear hoL
            go_wp2_with fail
            refine Calls.mono HLA2.out ?_
            rintro e r8 ⟨v8, rfl, hs8, hx8⟩
            obtain ⟨na, nn, nc, ra, rn, rc, rfl, -, -, -, -⟩ := id hs8
            have HX8 := hid hx8
            have HS8 := hid hs8
            have HB8 := hid (HBL.out.frm (Frm.of_ext hx8 (fun _ => False)) (fun h => h) (fun _ _ h => h))
            obtain ⟨ba, bn, bc, bd, bm, bk, hbb, hbs⟩ := HB8.out
            have hbb9 := (ext_alloc r8 (.cells #[.int .i64 v.s.i, .int .i64 v.s.t, .slice na nn nc, .slice ra rn rc] 25)).block pb (Array.getElem?_eq_some_iff.1 hbb).1
            have HBS8 := hid hbs
            obtain ⟨⟨u0, u1, u2, u3⟩, -, hpl8⟩ := cells4 hbb
            have HSAME := hid (fun W (hW : Ext r8 W) => Same_any (hs8.below hW) (hbs.below hW))
            clear hx8 hs8 hbb hbs hbb9
            have hx9 := ext_alloc r8 (.cells #[.int .i64 v.s.i, .int .i64 v.s.t, .slice na nn nc, .slice ra rn rc] 25)
            have HX9 := hid hx9
            clear hx9
            go_wp2_with fail
            refine Calls.mono (HSAME.out _ HX9.out) ?_
            rintro e r10 ⟨he, hx10⟩
            rw [show sameS v.s v.s = true from sameS_iff.2 rfl] at he
            subst he
            have HX10 := hid (HX9.out.trans' hx10)
            clear hx10
            go_wp2
            have hz8 := HX8.out.size
            have hz10 := HX10.out.size
            go_roundw
            case rel => exact ⟨k + 1, v, grow A r3 r4, (fun q => M q ∧ q < r3.heap.size), by omega, by go_num, (by first | rfl | rw [hsm]), (HVL.out.below HX8.out).below HX10.out, HGW.out, HGP.out, HCV.out, (HB8.out.frm (Frm.of_ext HX10.out (fun _ => False)) (fun h => h) (fun _ _ h => h)), HMM.out, ((HX4.out.trans' HX5.out).trans' HX8.out).trans' HX10.out, by omega⟩
            case measure => simp [intOf]; omega
        · obtain ⟨d', hse, hcv2⟩ := HC.out.save hck hnew HL70.out
          rw [hse] at hsave
          have HCK := hid hck
          have HNEW := hid hnew
          have HCV := hid hcv2
          clear hck hnew hse hcv2
          have HSA := hid hsave
          clear hsave
          go_wp2_with fail
          refine Calls.mono HSA.out ?_
          rintro e r4 ⟨rfl, hv4, hf4⟩
          have HV4 := hid hv4
          have HF4 := hid hf4
          have HS4 := hid ((HSV.out.below HX23.out).keep (w' := r4) (G := fun q => wr.heap.size ≤ q ∧ q < r2.heap.size) fun q hq hl => ⟨⟨by have h1 := hq.1; have := HZ1.out; omega, hq.2⟩, hf4.block q hl fun h => by have h2 := HLA.out q h; have h1 := hq.1; have := HZ1.out; omega⟩)
          have hz34 : wr.heap.size + 1 ≤ r2.heap.size := (Array.getElem?_eq_some_iff.1 (HP9.out r2 (Below.refl _ _))).1
          have HP94 := hid ((hf4.block wr.heap.size (by have := HZ3.out; omega) fun h => by have h2 := HLA.out _ h; omega).trans (HP9.out r3 HX23.out))
          have HP104 := hid ((hf4.block r2.heap.size (by have := HZ3.out; omega) fun h => by have h2 := HLA.out _ h; omega).trans HP10.out)
          have HB4 := hid ((HB.out.frm (Frm.of_ext HR3.out (fun _ => False)) (fun h => h) (fun _ _ h => h)).frm hf4 HAP.out (fun q hq => (HM.out q hq).1))
          have HG4 := hid (show ∀ q, grow A r3 r4 q → w.heap.size ≤ q ∧ q ≠ pb ∧ ¬ M q ∨ r3.heap.size ≤ q from fun q hq => by
            rcases hq with hq | hq
            · exact .inl ⟨HAW.out q hq, fun e => HAP.out (by rw [← e]; exact hq), fun h => (HM.out q h).1 hq⟩
            · exact .inr hq.1)
          have HX4 := hid (ext_frm (HX.out.trans' HR3.out) hf4 HAW.out)
          have HZ34 := hid hz34
          clear hv4 hf4 HSA HV hz34
          obtain ⟨⟨t0, t1, t2, t3⟩, -, -⟩ := cells4 HP104.out
          go_wp2_with fail
          refine Calls.mono (RCheck_any HS4.out) ?_
          rintro e r5 ⟨rfl, hx5⟩
          have HX5 := hid hx5
          have HB5 := hid (HB4.out.frm (Frm.of_ext hx5 (fun _ => False)) (fun h => h) (fun _ _ h => h))
          have e5 := (hx5.block r2.heap.size (Array.getElem?_eq_some_iff.1 HP104.out).1).trans HP104.out
          have e9 := (hx5.block wr.heap.size (Array.getElem?_eq_some_iff.1 HP94.out).1).trans HP94.out
          have HP95 := hid e9
          clear t0 t1 t2 t3 hx5
          obtain ⟨⟨t0, t1, t2, t3⟩, -, -⟩ := cells4 e5
          obtain ⟨ba, bn, bc, bd, bm, bk, hbb, hbs⟩ := HB5.out
          obtain ⟨⟨u0, u1, u2, u3⟩, ⟨f0, f1, f2, f3⟩, hpl5⟩ := cells4 hbb
          have HBB5 := hid hbb
          have HBS5 := hid hbs
          clear e5 e9 hbb hbs
          rw [HCK.out]
          have HGW := hid (show ∀ q, grow A r3 r4 q → w.heap.size ≤ q from fun q hq => by
            rcases HG4.out q hq with h | h
            · exact h.1
            · have := HR3.out.size; have := HX.out.size; omega)
          have HGP := hid (show ¬ grow A r3 r4 pb from fun h => by
            rcases HG4.out pb h with h | h
            · exact h.2.1 rfl
            · have := HR3.out.size; omega)
          have HLT4 := hid HV4.out.lt
          obtain ⟨j0, j1, j2, j3, j4, j5, j6, j7, j8⟩ := cells9a HP95.out
          have HKV5 := hid (HKV.out r5 (HX4.out.trans' HX5.out))
          have hcase2 : v.some = false ∨ (v.some = true ∧ v.s.i < s.i) := by
            cases hv : v.some with
            | false => exact .inl rfl
            | true => exact .inr ⟨rfl, HNEW.out hv⟩
          rcases hcase2 with hsm | ⟨hsm, hgt⟩
          · rw [hsm]
            go_wp2_with fail
            refine Calls.mono HKV5.out ?_
            rintro e r6 ⟨x0, x1, x2, x3, rfl, hsv6, hx6⟩
            have hsv6 := hsv6 HDL.out
            rw [← HSE.out] at hsv6
            obtain ⟨pa6, pn6, pc6, da6, dn6, dc6, rfl, rfl, rfl, rfl⟩ := snv_form hsv6
            have hb6 := (hx6.block pb hpl5).trans HBB5.out
            obtain ⟨⟨v0, v1, v2, v3⟩, ⟨f0, f1, f2, f3⟩, hpl6⟩ := cells4 hb6
            have HSV6 := hid hsv6
            have HX6 := hid hx6
            have HB6 := hid hb6
            clear hsv6 hx6 hb6
            have hS7 := ((((SetG.start HB6.out).step 0 (.int .i64 s.i)).step 1 (.int .i64 s.t)).step 2 (.slice pa6 pn6 pc6)).step 3 (.slice da6 dn6 dc6)
            have HS7 := hid hS7
            clear hS7
            go_wp2_with fail
            have hS7 := HS7.out
            generalize (((r6.setCell ⟨pb, 0, none⟩ (.int .i64 s.i)).setCell ⟨pb, 1, none⟩ (.int .i64 s.t)).setCell ⟨pb, 2, none⟩ (.slice pa6 pn6 pc6)).setCell ⟨pb, 3, none⟩ (.slice da6 dn6 dc6) = r7 at *
            have HS7 := hid hS7
            clear hS7
            have HX7 := hid (ext_frm ((HX4.out.trans' HX5.out).trans' HX6.out) HS7.out.frm (fun q hq => by rw [hq]; exact HPB.out.1))
            have HVL := hid ((HV4.out.below (HX5.out.trans' HX6.out)).frm HS7.out.frm (fun q hq e => HGP.out (by rw [← (show q = pb from e)]; exact hq)))
            have HBL := hid (show BestAt (fun q => r5.heap.size ≤ q ∧ q < r6.heap.size) r7 pb s from ⟨pa6, pn6, pc6, da6, dn6, dc6, HS7.out.obj, HSV6.out.keep fun q hq hl => ⟨hq, HS7.out.frm.block q hl (by show ¬ q = pb; have := hq.1; omega)⟩⟩)
            have HMM := hid (show ∀ q, (r5.heap.size ≤ q ∧ q < r6.heap.size) → ¬ grow A r3 r4 q ∧ q ≠ pb from fun q hq => ⟨fun h => by
              have h1 := HLT4.out q h; have h2 := HX5.out.size; have h3 := hq.1; omega, by have := hq.1; omega⟩)
            clear u0 u1 u2 u3 v0 v1 v2 v3 f0 f1 f2 f3
            obtain ⟨GL, hoL, -⟩ := VaO.of_va HVL.out
            have HLA2 := hid (Last_any hoL)
            clear hoL
            refine Calls.mono HLA2.out ?_
            rintro e r8 ⟨v8, rfl, hs8, hx8⟩
            obtain ⟨na, nn, nc, ra, rn, rc, rfl, -, -, -, -⟩ := id hs8
            have HX8 := hid hx8
            have HB8 := hid (HBL.out.frm (Frm.of_ext hx8 (fun _ => False)) (fun h => h) (fun _ _ h => h))
            obtain ⟨ba, bn, bc, bd, bm, bk, hbb, hbs⟩ := HB8.out
            obtain ⟨⟨u0, u1, u2, u3⟩, -, hpl8⟩ := cells4 hbb
            have HSAME := hid (fun W (hW : Ext r8 W) => Same_any (hs8.below hW) (hbs.below hW))
            clear hx8 hs8 hbb hbs
            have hx9 := ext_alloc r8 (.cells #[.int .i64 s.i, .int .i64 s.t, .slice na nn nc, .slice ra rn rc] 25)
            have HX9 := hid hx9
            clear hx9
            go_wp2_with fail
            refine Calls.mono (HSAME.out _ HX9.out) ?_
            rintro e r10 ⟨he, hx10⟩
            rw [show sameS s s = true from sameS_iff.2 rfl] at he
            subst he
            have HX10 := hid (HX9.out.trans' hx10)
            clear hx10
            go_wp2
            have hz8 := HX8.out.size
            have hz10 := HX10.out.size
            go_roundw
            case rel => exact ⟨k + 1, ⟨s, true, d'⟩, grow A r3 r4, (fun q => r5.heap.size ≤ q ∧ q < r6.heap.size), by omega, by go_num, rfl, (HVL.out.below HX8.out).below HX10.out, HGW.out, HGP.out, HCV.out, (HB8.out.frm (Frm.of_ext HX10.out (fun _ => False)) (fun h => h) (fun _ _ h => h)), HMM.out, (HX7.out.trans' HX8.out).trans' HX10.out, by omega⟩
            case measure => simp [intOf]; omega
          · have hd1 : decide (v.s.i < s.i) = true := by simpa using hgt
            rw [hsm]
            clear hgt
            go_wp2_with fail
            refine Calls.mono HKV5.out ?_
            rintro e r6 ⟨x0, x1, x2, x3, rfl, hsv6, hx6⟩
            have hsv6 := hsv6 HDL.out
            rw [← HSE.out] at hsv6
            obtain ⟨pa6, pn6, pc6, da6, dn6, dc6, rfl, rfl, rfl, rfl⟩ := snv_form hsv6
            have hb6 := (hx6.block pb hpl5).trans HBB5.out
            obtain ⟨⟨v0, v1, v2, v3⟩, ⟨f0, f1, f2, f3⟩, hpl6⟩ := cells4 hb6
            have HSV6 := hid hsv6
            have HX6 := hid hx6
            have HB6 := hid hb6
            clear hsv6 hx6 hb6
            have hS7 := ((((SetG.start HB6.out).step 0 (.int .i64 s.i)).step 1 (.int .i64 s.t)).step 2 (.slice pa6 pn6 pc6)).step 3 (.slice da6 dn6 dc6)
            have HS7 := hid hS7
            clear hS7
            go_wp2_with fail
            have hS7 := HS7.out
            generalize (((r6.setCell ⟨pb, 0, none⟩ (.int .i64 s.i)).setCell ⟨pb, 1, none⟩ (.int .i64 s.t)).setCell ⟨pb, 2, none⟩ (.slice pa6 pn6 pc6)).setCell ⟨pb, 3, none⟩ (.slice da6 dn6 dc6) = r7 at *
            have HS7 := hid hS7
            clear hS7
            have HX7 := hid (ext_frm ((HX4.out.trans' HX5.out).trans' HX6.out) HS7.out.frm (fun q hq => by rw [hq]; exact HPB.out.1))
            have HVL := hid ((HV4.out.below (HX5.out.trans' HX6.out)).frm HS7.out.frm (fun q hq e => HGP.out (by rw [← (show q = pb from e)]; exact hq)))
            have HBL := hid (show BestAt (fun q => r5.heap.size ≤ q ∧ q < r6.heap.size) r7 pb s from ⟨pa6, pn6, pc6, da6, dn6, dc6, HS7.out.obj, HSV6.out.keep fun q hq hl => ⟨hq, HS7.out.frm.block q hl (by show ¬ q = pb; have := hq.1; omega)⟩⟩)
            have HMM := hid (show ∀ q, (r5.heap.size ≤ q ∧ q < r6.heap.size) → ¬ grow A r3 r4 q ∧ q ≠ pb from fun q hq => ⟨fun h => by
              have h1 := HLT4.out q h; have h2 := HX5.out.size; have h3 := hq.1; omega, by have := hq.1; omega⟩)
            clear u0 u1 u2 u3 v0 v1 v2 v3 f0 f1 f2 f3
            obtain ⟨GL, hoL, -⟩ := VaO.of_va HVL.out
            have HLA2 := hid (Last_any hoL)
            clear hoL
            refine Calls.mono HLA2.out ?_
            rintro e r8 ⟨v8, rfl, hs8, hx8⟩
            obtain ⟨na, nn, nc, ra, rn, rc, rfl, -, -, -, -⟩ := id hs8
            have HX8 := hid hx8
            have HB8 := hid (HBL.out.frm (Frm.of_ext hx8 (fun _ => False)) (fun h => h) (fun _ _ h => h))
            obtain ⟨ba, bn, bc, bd, bm, bk, hbb, hbs⟩ := HB8.out
            obtain ⟨⟨u0, u1, u2, u3⟩, -, hpl8⟩ := cells4 hbb
            have HSAME := hid (fun W (hW : Ext r8 W) => Same_any (hs8.below hW) (hbs.below hW))
            clear hx8 hs8 hbb hbs
            have hx9 := ext_alloc r8 (.cells #[.int .i64 s.i, .int .i64 s.t, .slice na nn nc, .slice ra rn rc] 25)
            have HX9 := hid hx9
            clear hx9
            go_wp2_with fail
            refine Calls.mono (HSAME.out _ HX9.out) ?_
            rintro e r10 ⟨he, hx10⟩
            rw [show sameS s s = true from sameS_iff.2 rfl] at he
            subst he
            have HX10 := hid (HX9.out.trans' hx10)
            clear hx10
            go_wp2
            have hz8 := HX8.out.size
            have hz10 := HX10.out.size
            go_roundw
            case rel => exact ⟨k + 1, ⟨s, true, d'⟩, grow A r3 r4, (fun q => r5.heap.size ≤ q ∧ q < r6.heap.size), by omega, by go_num, rfl, (HVL.out.below HX8.out).below HX10.out, HGW.out, HGP.out, HCV.out, (HB8.out.frm (Frm.of_ext HX10.out (fun _ => False)) (fun h => h) (fun _ _ h => h)), HMM.out, (HX7.out.trans' HX8.out).trans' HX10.out, by omega⟩
            case measure => simp [intOf]; omega
      · have hkn : k = n := by omega
        clear hkn
        go_wp2_with fail
        refine Calls.mono (HA.out wr HX.out) ?_
        rintro e r2 ⟨rfl, hx2⟩
        go_wp2
        go_ret
        exact ⟨rfl, HX.out.trans' hx2⟩
end Go.Proofs.YtjapeaoebjmpnaaGreatDoor
