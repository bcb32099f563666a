/- The walk of the reference's Fall. Printed by gen_rd8.py. -/
import Derived.Test.YtjapeaoebjmpnaaGreatDoorB34
namespace Go.Proofs.YtjapeaoebjmpnaaGreatDoor
open Go.RowKit Go.Maps
set_option linter.unusedVariables false
set_option linter.unusedSimpArgs false
attribute [local go_sem] bmax2 bmin2 bmax_two bmin_two

theorem cut_all (a : ActS) : a.cut a.data.length = a := by
  cases a with
  | write n k b => show ActS.write n k (b.take b.length) = _; rw [List.take_length]
  | _ => rfl
theorem cut_none {h : RH} {a : ActS} (hk : RaK h a) (h0 : h.k ≠ 0) (q : Nat) : a.cut q = a := by
  cases a with
  | write n k b => exact absurd hk.1 h0
  | _ => rfl
theorem cut_kind {h : RH} {a : ActS} (hk : RaK h a) (q : Nat) : RaK h (a.cut q) := by
  cases a <;> exact hk
/-- Any beginning of some acts is fit, and not too long. -/
theorem take_sizes {T : Tab} {l : List ActS} (hf : fitsAll T l) (hr : tRise T) (hT : T.length ≤ 4096) (hs : tTot T + aTot l ≤ 16777216) {k : Nat} (hk : k ≤ l.length) : (runAll T (l.take k)).length ≤ 4096 ∧ tTot (runAll T (l.take k)) ≤ 16777216 := by
  have h1 : fitsAll T (l.take k) := by
    rw [← List.take_append_drop k l, fitsAll_append] at hf
    exact hf.1
  obtain ⟨-, h2, h3⟩ := runAll_ok _ _ h1 hr hT
  have := aTot_takeR l k
  exact ⟨h2, by omega⟩
def RFallPost (D : Nat → Prop) (g : Nat) (s' : DS) (w : World) (e : Ending) (w' : World) : Prop := e = .returned (.tuple #[]) ∧ RDk (grow D w w') w' g s' ∧ Frm D w w'
/-- The disk behind a fall. -/
theorem rfall_done {D : Nat → Prop} {w wr wc wz : World} {g : Nat} {s : DS} {la : Option Addr} {ln lc : Nat} {av : Value} {H : List RH} {k t : Int} {T : Tab} {va : Option Addr} {vn vc L ac : Nat} {aa : Option Addr} {off : Bool} {left room : Int} (h : RDkIn D w g s la ln lc av H k t)
    (hob : wc.heap[g]? = some (.cells #[.int .i64 room, .slice va vn vc, .slice aa L ac, .bool off, .int .i64 left, .int .i64 k, .int .i64 t] 67 (0, 0)))
    (hf : FsF (fun q => (D q ∧ q ≠ g) ∨ w.heap.size ≤ q ∧ q < wr.heap.size) wr va vn vc T) (hfr : Frm (fun q => q = g) w wr) (hx : Ext wr wc)
    (hS : SetG g 67 wc wz #[.int .i64 room, .slice va vn vc, .slice none 0 0, .bool true, .int .i64 0, .int .i64 k, .int .i64 t]) (hroom : room = s.room) (hgl : g < w.heap.size) :
    RFallPost D g ⟨true, 0, 0, 0, s.room, T, T, []⟩ w (.returned (.tuple #[])) wz := by
  have z1 := hfr.size
  have z2 := hx.size
  have z3 := hS.size
  have hfz : Frm (fun q => q = g) w wz := (hfr.then_ext hx).trans hS.frm fun q hq => .inl hq
  refine ⟨rfl, ⟨va, vn, vc, .slice none 0 0, [], k, t, ⟨by rw [← hroom]; exact hS.obj, fun h0 => absurd rfl h0, h.k64, hf.keep fun q hq hl => ?_, World.ownsRow_nil _ _ _ _, trivial, .inl h.dg, (fun b hb => by cases hb), (fun e => by cases e), fun q hq => ?_⟩⟩, hfz.more fun q e => by subst e; exact h.dg⟩
  · have hne : q ≠ g := by
      rcases hq with hq | hq
      · exact hq.2
      have := hq.1; omega
    refine ⟨⟨?_, hne, fun e => by cases e⟩, (hS.frm.block q (by omega) hne).trans (hx.block q hl)⟩
    rcases hq with hq | hq
    · exact .inl hq.1
    exact .inr ⟨hq.1, by omega⟩
  rcases hq with hq | hq
  · have := h.lt q hq; omega
  exact hq.2
theorem RFallPost.ext {D : Nat → Prop} {g : Nat} {s' : DS} {w w1 w2 : World} {e : Ending} (h : RFallPost D g s' w e w1) (hx : Ext w1 w2) : RFallPost D g s' w e w2 := by
  obtain ⟨h1, h2, h3⟩ := h
  have z := hx.size
  have hl := h2.lt
  refine ⟨h1, (h2.below hx).more (fun q hq => ?_) (fun q hq => ?_), h3.then_ext hx⟩
  · rcases hq with hq | hq
    · exact .inl hq
    exact .inr ⟨hq.1, by omega⟩
  rcases hq with hq | hq
  · have := hl q (.inl hq); omega
  exact hq.2
set_option maxRecDepth 100000 in
set_option maxHeartbeats 16000000 in
theorem RFall_any {D : Nat → Prop} {w : World} {g : Nat} {s : DS} (h : RDk D w g s) (hok : s.Ok) (hc : s.acts.length < 1000000000000) (keep tear : Int) (hk : In64 keep) (ht : In64 tear) :
    Calls Tryz.prog 80 #[.pointer (some ⟨g, 0, none⟩), .int .i64 keep, .int .i64 tear] w (RFallPost D g (s.fall keep tear) w) := by
  obtain ⟨la, ln, lc, av, H, k0, t0, h⟩ := h
  obtain ⟨⟨c0, c1, c2, c3, c4, c5, c6⟩, -, hgl⟩ := rcells7 h.obj
  obtain ⟨aa, ac, hav⟩ := own_slice2 h.row
  subst hav
  obtain ⟨hk1, hk2⟩ := hk
  obtain ⟨ht1, ht2⟩ := ht
  have HI := hid h
  have HACT := hid (fun i (hi : i < s.acts.length) => h.act hi)
  have HLS := hid (show FsF (fun q => D q ∧ q ≠ g) w la ln lc s.last from h.last.more fun q hq => ⟨hq.1, hq.2.1⟩)
  have hML := lastsS_len s.acts keep tear
  have hMF := fitsAll_lasts hok.fits keep tear
  have hus := hok.used
  have hro := hok.room1
  unfold DS.used at hus
  have hat := lastsS_at s.acts keep tear
  obtain ⟨M, hM⟩ : ∃ M, M = lastsS s.acts keep tear := ⟨_, rfl⟩
  have hfall : s.fall keep tear = ⟨true, 0, 0, 0, s.room, runAll s.last M, runAll s.last M, []⟩ := by rw [hM]; rfl
  rw [← hM] at hML hMF hat
  have HSZ := hid (fun i (hi : i ≤ M.length) => take_sizes hMF.1 hok.rise hok.len (show tTot s.last + aTot M ≤ 16777216 by have := hMF.2; omega) hi)
  have HDL := hid (fun i (hi : i < M.length) => (show M[i].data.length ≤ 16777216 by have h1 := aTot_get hi; have := hMF.2; omega))
  have HDA := hid (fun i (hi : i < s.acts.length) => (show s.acts[i].data.length ≤ 16777216 by have h1 := aTot_get hi; omega))
  have HAT := hid hat
  have HMF := hid hMF.1
  rw [hfall]
  obtain ⟨L, hL⟩ : ∃ L, L = s.acts.length := ⟨_, rfl⟩
  rw [← hL] at hc c2 hML
  obtain ⟨N, hN⟩ : ∃ N, N = (max 0 (min keep (L : Int))).toNat := ⟨_, rfl⟩
  rw [← hN] at hML
  have HML := hid hML
  have HL := hid hL
  have HN := hid hN
  have hNL : N ≤ L := by omega
  have hNk : (0 : Int) < N → (N : Int) ≤ keep := by omega
  have HNK := hid hNk
  have HOFF := hid hc
  obtain ⟨off, hoff⟩ : ∃ off, off = s.off := ⟨_, rfl⟩
  obtain ⟨left, hleft⟩ : ∃ left, left = s.left := ⟨_, rfl⟩
  obtain ⟨room, hroom⟩ : ∃ room, room = s.room := ⟨_, rfl⟩
  rw [← hoff] at c3
  rw [← hleft] at c4
  rw [← hroom] at c0
  have hob0 := h.obj
  rw [← hL, ← hoff, ← hleft, ← hroom] at hob0
  have HOB := hid hob0
  have HROOM := hid hroom
  clear h hok hat hML hMF hus hro hM hfall hL hN hNk hoff hleft hroom hob0
  go_enter Tryz.func80, Tryz.ntmps80
  go_wp2
  go_loopw [6, 7, 13] (fun _ _ z wr => ∃ (i : Nat) (va : Option Addr) (vn vc : Nat), i ≤ N ∧ z = .int .i64 (i : Int) ∧ Hid (wr.heap[g]? = some (.cells #[.int .i64 room, .slice va vn vc, .slice aa L ac, .bool off, .int .i64 left, .int .i64 k0, .int .i64 t0] 67 (0, 0))) ∧
      Hid (FsF (fun q => (D q ∧ q ≠ g) ∨ w.heap.size ≤ q ∧ q < wr.heap.size) wr va vn vc (runAll s.last (M.take i))) ∧ Hid (Frm (fun q => q = g) w wr)) (fun _ _ z _ => L - (intOf z).toNat)
  case atStart => exact ⟨0, la, ln, lc, Nat.zero_le _, rfl, HOB.out, hid (HLS.out.more fun q hq => .inl hq), Frm.refl _ _⟩
  obtain ⟨i, va, vn, vc, hi, rfl, HG, HF, HFR⟩ := hrel
  obtain ⟨⟨d0, d1, d2, d3, d4, d5, d6⟩, fz, hgw⟩ := rcells7 HG.out
  have f1 := fz 1
  have f2 := fz 2
  have f3 := fz 3
  have f4 := fz 4
  by_cases hlt : i < N
  · have hi2 : i < s.acts.length := by have := HL.out; omega
    obtain ⟨b, cc, x, hav, hbl, hra, q0, q1, q2, q3, q4⟩ := HACT.out i hi2
    injection hav with e1 e2 e3
    have hbg : b ≠ g := fun e => HI.out.gav (by rw [e1, e]; rfl)
    subst e1; subst e3
    have qc : ∀ j, wr.cell? ⟨b, j, none⟩ = w.cell? ⟨b, j, none⟩ := fun j => HFR.out.cell (p := ⟨b, j, none⟩) hbl hbg
    have q0 := (qc _).trans q0
    have q1 := (qc _).trans q1
    have q2 := (qc _).trans q2
    have q3 := (qc _).trans q3
    have q4 := (qc _).trans q4
    have hiM : i < M.length := by have := HML.out; omega
    have hfit := (fitsAll_at HMF.out hiM).2
    have hsz := HSZ.out i (by omega)
    have hdl := HDL.out i hiM
    have hda := HDA.out i hi2
    have hrun := runAll_take (T := s.last) hiM
    have hMi := HAT.out i (by have := HN.out; have := HL.out; omega) hi2 hiM
    obtain ⟨act, hact⟩ : ∃ act, act = s.acts[i] := ⟨_, rfl⟩
    obtain ⟨mact, hmact⟩ : ∃ mact, mact = M[i] := ⟨_, rfl⟩
    rw [← hact] at hra hMi hda
    rw [← hmact] at hfit hdl hrun hMi
    rw [show (max 0 (min keep ((s.acts.length : Nat) : Int))).toNat = N by rw [← HL.out]; exact HN.out.symm] at hMi
    have hra : RaV (fun q => D q ∧ q ≠ g) wr x act := hra.keep fun q hq hl => ⟨⟨hq.1, hq.2.1⟩, HFR.out.block q hl hq.2.1⟩
    have hbn := hra.2.1
    have hkeep : (i : Int) < keep := by have := HNK.out; omega
    have hiL : (i : Int) < (L : Int) := by omega
    have hi0 : (0 : Int) ≤ (i : Int) := by omega
    have hNi : i + 1 = N ↔ ((i : Int) = keep - 1 ∨ (i : Int) = (L : Int) - 1) := by have := HN.out; omega
    obtain ⟨xk, xn, xt, xa, ba, bn, bc⟩ := x
    dsimp only at q0 q1 q2 q3 q4 hbn
    have hbn16 : bn ≤ 16777216 := by omega
    have hnt : (¬ (xk = 0 ∧ ((i : Int) = keep - 1 ∨ (i : Int) = (L : Int) - 1) ∧ 0 < tear)) → mact = act := fun hno => by
      rw [hMi]
      split
      · rename_i he
        by_cases hx0 : xk = 0
        · have ht0 : ¬ 0 < tear := fun h => hno ⟨hx0, hNi.1 he, h⟩
          have : act.data.length - (max 0 (min tear (act.data.length : Int))).toNat = act.data.length := by omega
          rw [this, cut_all]
        exact cut_none hra.1 hx0 _
      rfl
    have HNT := hid hnt
    have HRUN := hid hrun
    have HRA := hid hra
    have HFIT := hid hfit
    have HSI := hid hsz
    have HDI := hid hdl
    have HMI := hid hMi
    have HNI := hid hNi
    have HBN := hid hbn
    have cgw : ∀ W, Ext wr W → W.heap[g]? = some (.cells #[.int .i64 room, .slice va vn vc, .slice (some ⟨b, 0, none⟩) L ac, .bool off, .int .i64 left, .int .i64 k0, .int .i64 t0] 67 (0, 0)) := fun W hW => (hW.block g hgw).trans HG.out
    have HCG := hid cgw
    have hcb := heap_alloc_new wr (.cells #[.int .i64 xk, .string ⟨xn.toArray⟩, .string ⟨xt.toArray⟩, .int .i64 xa, .slice ba bn bc] 124)
    have x1 := ext_alloc wr (.cells #[.int .i64 xk, .string ⟨xn.toArray⟩, .string ⟨xt.toArray⟩, .int .i64 xa, .slice ba bn bc] 124)
    have HCB := hid hcb
    have HX1 := hid x1
    clear hra hfit hsz hdl hrun hMi hact hmact hnt hNi hda hiM cgw hcb x1 qc hbg hbn
    by_cases hx0 : xk = 0
    · subst hx0
      have hw1 : IntKind.i64.wrap (keep - 1) = keep - 1 := IntWalk.i64_in _ ⟨by omega, by omega⟩
      by_cases h1 : (i : Int) = keep - 1
      · have b1 : ((i : Int) == keep - 1) = true := by simpa using h1
        by_cases ht : 0 < tear
        · have hij : (i : Int) = keep - 1 ∨ (i : Int) = (L : Int) - 1 := .inl h1
          clear h1
          obtain ⟨mt, hmt⟩ : ∃ mt, mt = min tear 1073741824 := ⟨_, rfl⟩
          obtain ⟨m1, hm1⟩ : ∃ m1 : Nat, m1 = bn - (max 0 (min tear (bn : Int))).toNat := ⟨_, rfl⟩
          have e1 : max 0 ((bn : Int) - mt) = (m1 : Int) := by omega
          have e2 : IntKind.i64.wrap ((bn : Int) - mt) = (bn : Int) - mt := IntWalk.i64_in _ ⟨by omega, by omega⟩
          have e3 : min tear 1073741824 = mt := hmt.symm
          have hm1b : m1 ≤ bn := by omega
          obtain ⟨a1, m1', k1, u1, u2, hb1⟩ := cut_h HRA.out.2 (m1 : Int) (by omega) (by dsimp only; omega)
          rw [Int.toNat_natCast] at hb1
          have hm1e : m1' = m1 := by have h1 := hb1.1; rw [List.length_take] at h1; have := HBN.out; omega
          subst hm1e
          have hme : mact = act.cut m1' := by
            rw [HMI.out, if_pos (HNI.out.2 hij), hm1, HBN.out]
          have HRC0 := hid (show RaV (fun q => D q ∧ q ≠ g) wr ⟨0, xn, xt, xa, a1, m1', k1⟩ mact from by
            rw [hme]
            refine ⟨cut_kind (h := ⟨0, xn, xt, xa, a1, m1', k1⟩) (show RaK _ act from HRA.out.1) _, ?_⟩
            rw [ActS.cut_data]
            exact hb1)
          have HCC := hid (heap_alloc_new wr (.cells #[.int .i64 0, .string ⟨xn.toArray⟩, .string ⟨xt.toArray⟩, .int .i64 xa, .slice a1 m1' k1] 124))
          have HXC := hid (ext_alloc wr (.cells #[.int .i64 0, .string ⟨xn.toArray⟩, .string ⟨xt.toArray⟩, .int .i64 xa, .slice a1 m1' k1] 124))
          have HRC := hid (show RaV (fun q => D q ∧ q ≠ g) (wr.alloc (.cells #[.int .i64 0, .string ⟨xn.toArray⟩, .string ⟨xt.toArray⟩, .int .i64 xa, .slice a1 m1' k1] 124)) ⟨0, xn, xt, xa, a1, m1', k1⟩ mact from HRC0.out.keep fun q hq hl => ⟨hq, HXC.out.block q hl⟩)
          clear hmt hm1 hb1 hme hij
          go_wp2
          generalize wr.alloc (.cells #[.int .i64 0, .string ⟨xn.toArray⟩, .string ⟨xt.toArray⟩, .int .i64 xa, .slice a1 m1' k1] 124) = wc at *
          obtain ⟨m1, hm1⟩ : ∃ m1, m1 = m1' := ⟨_, rfl⟩
          subst hm1
          obtain ⟨wd, hwd⟩ : ∃ wd, wd = wc.drew := ⟨_, rfl⟩
          have hxd : Ext wr wd := by rw [hwd]; exact HXC.out.trans' (ext_drew wc)
          have y0 : wd.heap[wr.heap.size]? = some (.cells #[.int .i64 0, .string ⟨xn.toArray⟩, .string ⟨xt.toArray⟩, .int .i64 xa, .slice a1 m1 k1] 124 (0, 0)) := by rw [hwd]; exact HCC.out
          have HXD := hid hxd
          have HRD := hid (show RaV (fun q => D q ∧ q ≠ g) wd ⟨0, xn, xt, xa, a1, m1, k1⟩ mact from HRC.out.keep fun q hq hl => ⟨hq, by rw [hwd]; rfl⟩)
          have hdo := RDo_any (HF.out.below HXD.out) (Nat.le_trans HSI.out.1 (by decide)) HSI.out.2 HRD.out HFIT.out HDI.out
          have HDO := hid hdo
          clear d0 d1 d2 d3 d4 d5 d6 q0 q1 q2 q3 q4 hdo
          refine wp_region_held_drew (S := fun W => W.heap[wr.heap.size]? = some (.cells #[.int .i64 0, .string ⟨xn.toArray⟩, .string ⟨xt.toArray⟩, .int .i64 xa, .slice a1 m1 k1] 124 (0, 0))) (by kernel_rfl) HCC.out (fun hH => ?_)
          rw [← hwd]
          clear hH hwd hxd
          refine hr_ 0 (.pointer (some ⟨g, 0, none⟩)) rfl y0 (fun W hW => ?_) ?_
          · (clear hW; go_simp)
          try simp only [Act.put, sA_, s0_, sS_]
          refine hr_ 1 (.pointer (some ⟨g, 0, none⟩)) rfl y0 (fun W hW => ?_) ?_
          · (clear hW; go_simp)
          try simp only [Act.put, sA_, s0_, sS_]
          refine hr_ 2 (.pointer (some ⟨g, 0, none⟩)) rfl y0 (fun W hW => ?_) ?_
          · (clear hW; go_simp)
          try simp only [Act.put, sA_, s0_, sS_]
          refine hr_ 3 (.pointer (some ⟨g, 1, none⟩)) rfl y0 (fun W hW => ?_) ?_
          · (clear hW; go_simp)
          try simp only [Act.put, sA_, s0_, sS_]
          refine hr_ 5 (.agg #[.int .i64 0, .string ⟨xn.toArray⟩, .string ⟨xt.toArray⟩, .int .i64 xa, .slice a1 m1 k1]) rfl y0 (fun W hW => ?_) ?_
          · (obtain ⟨k0', k1', k2', k3', k4'⟩ := rcells5 hW; clear hW; go_simp)
          try simp only [Act.put, sA_, s0_, sS_]
          refine hc_ 4 rfl (fun K hK => ?_)
          have d1 := (rcells7 (HCG.out _ HXD.out)).1.2.1
          go_simp
          have y1 := y0
          clear d1
          refine hK.out _ _ y1 (fun hH => ?_)
          clear hK K y0 hH
          have y0 := y1
          clear y1
          try simp only [Act.put, sA_, s0_, sS_]
          refine hc_ 6 rfl (fun K hK => ?_)
          go_simp
          go_at_call 101
          refine Calls.mono HDO.out ?_
          rintro e w5 ⟨a5, n5, c5, rfl, hf, hx5⟩
          have y1 := (hx5.block wr.heap.size (Array.getElem?_eq_some_iff.1 y0).1).trans y0
          have HF5 := hid hf
          have HX5 := hid (HXD.out.trans' hx5)
          have HZ5 := hid hx5.size
          clear hf hx5
          go_wp2_with fail
          refine hK.out _ _ y1 (fun hH => ?_)
          clear hK K y0 hH
          have y0 := y1
          clear y1
          try simp only [Act.put, sA_, s0_, sS_]
          refine hr_ 7 (.pointer (some ⟨g, 0, none⟩)) rfl y0 (fun W hW => ?_) ?_
          · (clear hW; go_simp)
          try simp only [Act.put, sA_, s0_, sS_]
          refine hr_ 8 (.pointer (some ⟨g, 1, none⟩)) rfl y0 (fun W hW => ?_) ?_
          · (clear hW; go_simp)
          try simp only [Act.put, sA_, s0_, sS_]
          refine hc_ 9 rfl (fun K hK => ?_)
          obtain ⟨⟨d0, d1, d2, d3, d4, d5, d6⟩, fz5, hg5⟩ := rcells7 (HCG.out w5 HX5.out)
          have f15 := fz5 1
          have hS := (SetG.start (HCG.out w5 HX5.out)).step 1 (.slice a5 n5 c5)
          go_simp
          generalize w5.setCell ⟨g, 1, none⟩ (.slice a5 n5 c5) = w6 at *
          have y1 := (hS.frm.block wr.heap.size (Array.getElem?_eq_some_iff.1 y0).1 (by show ¬ _ = g; have := hgw; omega)).trans y0
          have HS := hid hS
          clear hS d0 d1 d2 d3 d4 d5 d6 fz5 f15 hg5
          refine hK.out _ _ y1 (fun hH => ?_)
          clear hK K y0 hH
          have y0 := y1
          clear y1
          try simp only [Act.put, sA_, s0_, sS_]
          refine wpAnyH_done (by kernel_rfl) ?_ _
          clear y0
          go_wp2
          go_roundw
          case rel => exact ⟨i + 1, a5, n5, c5, by omega, by go_num, HS.out.obj, hid (by
            rw [HRUN.out]
            refine HF5.out.keep fun q hq hl => ?_
            have h1 := HXD.out.size
            have h2 := HZ5.out
            have h3 := HS.out.size
            have h4 := HFR.out.size
            have hne : q ≠ g := by
              rcases hq with ((hq | hq) | hq) | hq
              · exact hq.2
              · have := hq.1; omega
              · exact hq.2
              have := hq.1; omega
            refine ⟨?_, HS.out.frm.block q hl hne⟩
            rcases hq with ((hq | hq) | hq) | hq
            · exact .inl hq
            · exact .inr ⟨hq.1, by have := hq.2; omega⟩
            · exact .inl hq
            exact .inr ⟨by have := hq.1; omega, by have := hq.2; omega⟩), (HFR.out.then_ext HX5.out).trans HS.out.frm fun q hq => .inl hq⟩
          case measure => simp [intOf]; omega
        have hno : ¬ ((0 : Int) = 0 ∧ ((i : Int) = keep - 1 ∨ (i : Int) = (L : Int) - 1) ∧ 0 < tear) := fun h => ht h.2.2
        clear h1
        have HEQ := hid (HNT.out hno)
        have HCC := HCB
        have HXC := HX1
        have HRC := hid (show RaV (fun q => D q ∧ q ≠ g) (wr.alloc (.cells #[.int .i64 0, .string ⟨xn.toArray⟩, .string ⟨xt.toArray⟩, .int .i64 xa, .slice ba bn bc] 124)) ⟨0, xn, xt, xa, ba, bn, bc⟩ mact from by
          rw [HEQ.out]; exact HRA.out.keep fun q hq hl => ⟨hq, HX1.out.block q hl⟩)
        clear hno
        go_wp2
        generalize wr.alloc (.cells #[.int .i64 0, .string ⟨xn.toArray⟩, .string ⟨xt.toArray⟩, .int .i64 xa, .slice ba bn bc] 124) = wc at *
        obtain ⟨wd, hwd⟩ : ∃ wd, wd = wc.drew := ⟨_, rfl⟩
        have hxd : Ext wr wd := by rw [hwd]; exact HXC.out.trans' (ext_drew wc)
        have y0 : wd.heap[wr.heap.size]? = some (.cells #[.int .i64 0, .string ⟨xn.toArray⟩, .string ⟨xt.toArray⟩, .int .i64 xa, .slice ba bn bc] 124 (0, 0)) := by rw [hwd]; exact HCC.out
        have HXD := hid hxd
        have HRD := hid (show RaV (fun q => D q ∧ q ≠ g) wd ⟨0, xn, xt, xa, ba, bn, bc⟩ mact from HRC.out.keep fun q hq hl => ⟨hq, by rw [hwd]; rfl⟩)
        have hdo := RDo_any (HF.out.below HXD.out) (Nat.le_trans HSI.out.1 (by decide)) HSI.out.2 HRD.out HFIT.out HDI.out
        have HDO := hid hdo
        clear d0 d1 d2 d3 d4 d5 d6 q0 q1 q2 q3 q4 hdo
        refine wp_region_held_drew (S := fun W => W.heap[wr.heap.size]? = some (.cells #[.int .i64 0, .string ⟨xn.toArray⟩, .string ⟨xt.toArray⟩, .int .i64 xa, .slice ba bn bc] 124 (0, 0))) (by kernel_rfl) HCC.out (fun hH => ?_)
        rw [← hwd]
        clear hH hwd hxd
        refine hr_ 0 (.pointer (some ⟨g, 0, none⟩)) rfl y0 (fun W hW => ?_) ?_
        · (clear hW; go_simp)
        try simp only [Act.put, sA_, s0_, sS_]
        refine hr_ 1 (.pointer (some ⟨g, 0, none⟩)) rfl y0 (fun W hW => ?_) ?_
        · (clear hW; go_simp)
        try simp only [Act.put, sA_, s0_, sS_]
        refine hr_ 2 (.pointer (some ⟨g, 0, none⟩)) rfl y0 (fun W hW => ?_) ?_
        · (clear hW; go_simp)
        try simp only [Act.put, sA_, s0_, sS_]
        refine hr_ 3 (.pointer (some ⟨g, 1, none⟩)) rfl y0 (fun W hW => ?_) ?_
        · (clear hW; go_simp)
        try simp only [Act.put, sA_, s0_, sS_]
        refine hr_ 5 (.agg #[.int .i64 0, .string ⟨xn.toArray⟩, .string ⟨xt.toArray⟩, .int .i64 xa, .slice ba bn bc]) rfl y0 (fun W hW => ?_) ?_
        · (obtain ⟨k0', k1', k2', k3', k4'⟩ := rcells5 hW; clear hW; go_simp)
        try simp only [Act.put, sA_, s0_, sS_]
        refine hc_ 4 rfl (fun K hK => ?_)
        have d1 := (rcells7 (HCG.out _ HXD.out)).1.2.1
        go_simp
        have y1 := y0
        clear d1
        refine hK.out _ _ y1 (fun hH => ?_)
        clear hK K y0 hH
        have y0 := y1
        clear y1
        try simp only [Act.put, sA_, s0_, sS_]
        refine hc_ 6 rfl (fun K hK => ?_)
        go_simp
        go_at_call 101
        refine Calls.mono HDO.out ?_
        rintro e w5 ⟨a5, n5, c5, rfl, hf, hx5⟩
        have y1 := (hx5.block wr.heap.size (Array.getElem?_eq_some_iff.1 y0).1).trans y0
        have HF5 := hid hf
        have HX5 := hid (HXD.out.trans' hx5)
        have HZ5 := hid hx5.size
        clear hf hx5
        go_wp2_with fail
        refine hK.out _ _ y1 (fun hH => ?_)
        clear hK K y0 hH
        have y0 := y1
        clear y1
        try simp only [Act.put, sA_, s0_, sS_]
        refine hr_ 7 (.pointer (some ⟨g, 0, none⟩)) rfl y0 (fun W hW => ?_) ?_
        · (clear hW; go_simp)
        try simp only [Act.put, sA_, s0_, sS_]
        refine hr_ 8 (.pointer (some ⟨g, 1, none⟩)) rfl y0 (fun W hW => ?_) ?_
        · (clear hW; go_simp)
        try simp only [Act.put, sA_, s0_, sS_]
        refine hc_ 9 rfl (fun K hK => ?_)
        obtain ⟨⟨d0, d1, d2, d3, d4, d5, d6⟩, fz5, hg5⟩ := rcells7 (HCG.out w5 HX5.out)
        have f15 := fz5 1
        have hS := (SetG.start (HCG.out w5 HX5.out)).step 1 (.slice a5 n5 c5)
        go_simp
        generalize w5.setCell ⟨g, 1, none⟩ (.slice a5 n5 c5) = w6 at *
        have y1 := (hS.frm.block wr.heap.size (Array.getElem?_eq_some_iff.1 y0).1 (by show ¬ _ = g; have := hgw; omega)).trans y0
        have HS := hid hS
        clear hS d0 d1 d2 d3 d4 d5 d6 fz5 f15 hg5
        refine hK.out _ _ y1 (fun hH => ?_)
        clear hK K y0 hH
        have y0 := y1
        clear y1
        try simp only [Act.put, sA_, s0_, sS_]
        refine wpAnyH_done (by kernel_rfl) ?_ _
        clear y0
        go_wp2
        go_roundw
        case rel => exact ⟨i + 1, a5, n5, c5, by omega, by go_num, HS.out.obj, hid (by
          rw [HRUN.out]
          refine HF5.out.keep fun q hq hl => ?_
          have h1 := HXD.out.size
          have h2 := HZ5.out
          have h3 := HS.out.size
          have h4 := HFR.out.size
          have hne : q ≠ g := by
            rcases hq with ((hq | hq) | hq) | hq
            · exact hq.2
            · have := hq.1; omega
            · exact hq.2
            have := hq.1; omega
          refine ⟨?_, HS.out.frm.block q hl hne⟩
          rcases hq with ((hq | hq) | hq) | hq
          · exact .inl hq
          · exact .inr ⟨hq.1, by have := hq.2; omega⟩
          · exact .inl hq
          exact .inr ⟨by have := hq.1; omega, by have := hq.2; omega⟩), (HFR.out.then_ext HX5.out).trans HS.out.frm fun q hq => .inl hq⟩
        case measure => simp [intOf]; omega
      have b1 : ((i : Int) == keep - 1) = false := by simpa using h1
      by_cases h2 : (i : Int) = (L : Int) - 1
      · have b2 : ((i : Int) == (L : Int) - 1) = true := by simpa using h2
        by_cases ht : 0 < tear
        · have hij : (i : Int) = keep - 1 ∨ (i : Int) = (L : Int) - 1 := .inr h2
          clear h1 h2
          obtain ⟨mt, hmt⟩ : ∃ mt, mt = min tear 1073741824 := ⟨_, rfl⟩
          obtain ⟨m1, hm1⟩ : ∃ m1 : Nat, m1 = bn - (max 0 (min tear (bn : Int))).toNat := ⟨_, rfl⟩
          have e1 : max 0 ((bn : Int) - mt) = (m1 : Int) := by omega
          have e2 : IntKind.i64.wrap ((bn : Int) - mt) = (bn : Int) - mt := IntWalk.i64_in _ ⟨by omega, by omega⟩
          have e3 : min tear 1073741824 = mt := hmt.symm
          have hm1b : m1 ≤ bn := by omega
          obtain ⟨a1, m1', k1, u1, u2, hb1⟩ := cut_h HRA.out.2 (m1 : Int) (by omega) (by dsimp only; omega)
          rw [Int.toNat_natCast] at hb1
          have hm1e : m1' = m1 := by have h1 := hb1.1; rw [List.length_take] at h1; have := HBN.out; omega
          subst hm1e
          have hme : mact = act.cut m1' := by
            rw [HMI.out, if_pos (HNI.out.2 hij), hm1, HBN.out]
          have HRC0 := hid (show RaV (fun q => D q ∧ q ≠ g) wr ⟨0, xn, xt, xa, a1, m1', k1⟩ mact from by
            rw [hme]
            refine ⟨cut_kind (h := ⟨0, xn, xt, xa, a1, m1', k1⟩) (show RaK _ act from HRA.out.1) _, ?_⟩
            rw [ActS.cut_data]
            exact hb1)
          have HCC := hid (heap_alloc_new wr (.cells #[.int .i64 0, .string ⟨xn.toArray⟩, .string ⟨xt.toArray⟩, .int .i64 xa, .slice a1 m1' k1] 124))
          have HXC := hid (ext_alloc wr (.cells #[.int .i64 0, .string ⟨xn.toArray⟩, .string ⟨xt.toArray⟩, .int .i64 xa, .slice a1 m1' k1] 124))
          have HRC := hid (show RaV (fun q => D q ∧ q ≠ g) (wr.alloc (.cells #[.int .i64 0, .string ⟨xn.toArray⟩, .string ⟨xt.toArray⟩, .int .i64 xa, .slice a1 m1' k1] 124)) ⟨0, xn, xt, xa, a1, m1', k1⟩ mact from HRC0.out.keep fun q hq hl => ⟨hq, HXC.out.block q hl⟩)
          clear hmt hm1 hb1 hme hij
          go_wp2
          generalize wr.alloc (.cells #[.int .i64 0, .string ⟨xn.toArray⟩, .string ⟨xt.toArray⟩, .int .i64 xa, .slice a1 m1' k1] 124) = wc at *
          obtain ⟨m1, hm1⟩ : ∃ m1, m1 = m1' := ⟨_, rfl⟩
          subst hm1
          obtain ⟨wd, hwd⟩ : ∃ wd, wd = wc.drew := ⟨_, rfl⟩
          have hxd : Ext wr wd := by rw [hwd]; exact HXC.out.trans' (ext_drew wc)
          have y0 : wd.heap[wr.heap.size]? = some (.cells #[.int .i64 0, .string ⟨xn.toArray⟩, .string ⟨xt.toArray⟩, .int .i64 xa, .slice a1 m1 k1] 124 (0, 0)) := by rw [hwd]; exact HCC.out
          have HXD := hid hxd
          have HRD := hid (show RaV (fun q => D q ∧ q ≠ g) wd ⟨0, xn, xt, xa, a1, m1, k1⟩ mact from HRC.out.keep fun q hq hl => ⟨hq, by rw [hwd]; rfl⟩)
          have hdo := RDo_any (HF.out.below HXD.out) (Nat.le_trans HSI.out.1 (by decide)) HSI.out.2 HRD.out HFIT.out HDI.out
          have HDO := hid hdo
          clear d0 d1 d2 d3 d4 d5 d6 q0 q1 q2 q3 q4 hdo
          refine wp_region_held_drew (S := fun W => W.heap[wr.heap.size]? = some (.cells #[.int .i64 0, .string ⟨xn.toArray⟩, .string ⟨xt.toArray⟩, .int .i64 xa, .slice a1 m1 k1] 124 (0, 0))) (by kernel_rfl) HCC.out (fun hH => ?_)
          rw [← hwd]
          clear hH hwd hxd
          refine hr_ 0 (.pointer (some ⟨g, 0, none⟩)) rfl y0 (fun W hW => ?_) ?_
          · (clear hW; go_simp)
          try simp only [Act.put, sA_, s0_, sS_]
          refine hr_ 1 (.pointer (some ⟨g, 0, none⟩)) rfl y0 (fun W hW => ?_) ?_
          · (clear hW; go_simp)
          try simp only [Act.put, sA_, s0_, sS_]
          refine hr_ 2 (.pointer (some ⟨g, 0, none⟩)) rfl y0 (fun W hW => ?_) ?_
          · (clear hW; go_simp)
          try simp only [Act.put, sA_, s0_, sS_]
          refine hr_ 3 (.pointer (some ⟨g, 1, none⟩)) rfl y0 (fun W hW => ?_) ?_
          · (clear hW; go_simp)
          try simp only [Act.put, sA_, s0_, sS_]
          refine hr_ 5 (.agg #[.int .i64 0, .string ⟨xn.toArray⟩, .string ⟨xt.toArray⟩, .int .i64 xa, .slice a1 m1 k1]) rfl y0 (fun W hW => ?_) ?_
          · (obtain ⟨k0', k1', k2', k3', k4'⟩ := rcells5 hW; clear hW; go_simp)
          try simp only [Act.put, sA_, s0_, sS_]
          refine hc_ 4 rfl (fun K hK => ?_)
          have d1 := (rcells7 (HCG.out _ HXD.out)).1.2.1
          go_simp
          have y1 := y0
          clear d1
          refine hK.out _ _ y1 (fun hH => ?_)
          clear hK K y0 hH
          have y0 := y1
          clear y1
          try simp only [Act.put, sA_, s0_, sS_]
          refine hc_ 6 rfl (fun K hK => ?_)
          go_simp
          go_at_call 101
          refine Calls.mono HDO.out ?_
          rintro e w5 ⟨a5, n5, c5, rfl, hf, hx5⟩
          have y1 := (hx5.block wr.heap.size (Array.getElem?_eq_some_iff.1 y0).1).trans y0
          have HF5 := hid hf
          have HX5 := hid (HXD.out.trans' hx5)
          have HZ5 := hid hx5.size
          clear hf hx5
          go_wp2_with fail
          refine hK.out _ _ y1 (fun hH => ?_)
          clear hK K y0 hH
          have y0 := y1
          clear y1
          try simp only [Act.put, sA_, s0_, sS_]
          refine hr_ 7 (.pointer (some ⟨g, 0, none⟩)) rfl y0 (fun W hW => ?_) ?_
          · (clear hW; go_simp)
          try simp only [Act.put, sA_, s0_, sS_]
          refine hr_ 8 (.pointer (some ⟨g, 1, none⟩)) rfl y0 (fun W hW => ?_) ?_
          · (clear hW; go_simp)
          try simp only [Act.put, sA_, s0_, sS_]
          refine hc_ 9 rfl (fun K hK => ?_)
          obtain ⟨⟨d0, d1, d2, d3, d4, d5, d6⟩, fz5, hg5⟩ := rcells7 (HCG.out w5 HX5.out)
          have f15 := fz5 1
          have hS := (SetG.start (HCG.out w5 HX5.out)).step 1 (.slice a5 n5 c5)
          go_simp
          generalize w5.setCell ⟨g, 1, none⟩ (.slice a5 n5 c5) = w6 at *
          have y1 := (hS.frm.block wr.heap.size (Array.getElem?_eq_some_iff.1 y0).1 (by show ¬ _ = g; have := hgw; omega)).trans y0
          have HS := hid hS
          clear hS d0 d1 d2 d3 d4 d5 d6 fz5 f15 hg5
          refine hK.out _ _ y1 (fun hH => ?_)
          clear hK K y0 hH
          have y0 := y1
          clear y1
          try simp only [Act.put, sA_, s0_, sS_]
          refine wpAnyH_done (by kernel_rfl) ?_ _
          clear y0
          go_wp2
          go_roundw
          case rel => exact ⟨i + 1, a5, n5, c5, by omega, by go_num, HS.out.obj, hid (by
            rw [HRUN.out]
            refine HF5.out.keep fun q hq hl => ?_
            have h1 := HXD.out.size
            have h2 := HZ5.out
            have h3 := HS.out.size
            have h4 := HFR.out.size
            have hne : q ≠ g := by
              rcases hq with ((hq | hq) | hq) | hq
              · exact hq.2
              · have := hq.1; omega
              · exact hq.2
              have := hq.1; omega
            refine ⟨?_, HS.out.frm.block q hl hne⟩
            rcases hq with ((hq | hq) | hq) | hq
            · exact .inl hq
            · exact .inr ⟨hq.1, by have := hq.2; omega⟩
            · exact .inl hq
            exact .inr ⟨by have := hq.1; omega, by have := hq.2; omega⟩), (HFR.out.then_ext HX5.out).trans HS.out.frm fun q hq => .inl hq⟩
          case measure => simp [intOf]; omega
        have hno : ¬ ((0 : Int) = 0 ∧ ((i : Int) = keep - 1 ∨ (i : Int) = (L : Int) - 1) ∧ 0 < tear) := fun h => ht h.2.2
        clear h1 h2
        have HEQ := hid (HNT.out hno)
        have HCC := HCB
        have HXC := HX1
        have HRC := hid (show RaV (fun q => D q ∧ q ≠ g) (wr.alloc (.cells #[.int .i64 0, .string ⟨xn.toArray⟩, .string ⟨xt.toArray⟩, .int .i64 xa, .slice ba bn bc] 124)) ⟨0, xn, xt, xa, ba, bn, bc⟩ mact from by
          rw [HEQ.out]; exact HRA.out.keep fun q hq hl => ⟨hq, HX1.out.block q hl⟩)
        clear hno
        go_wp2
        generalize wr.alloc (.cells #[.int .i64 0, .string ⟨xn.toArray⟩, .string ⟨xt.toArray⟩, .int .i64 xa, .slice ba bn bc] 124) = wc at *
        obtain ⟨wd, hwd⟩ : ∃ wd, wd = wc.drew := ⟨_, rfl⟩
        have hxd : Ext wr wd := by rw [hwd]; exact HXC.out.trans' (ext_drew wc)
        have y0 : wd.heap[wr.heap.size]? = some (.cells #[.int .i64 0, .string ⟨xn.toArray⟩, .string ⟨xt.toArray⟩, .int .i64 xa, .slice ba bn bc] 124 (0, 0)) := by rw [hwd]; exact HCC.out
        have HXD := hid hxd
        have HRD := hid (show RaV (fun q => D q ∧ q ≠ g) wd ⟨0, xn, xt, xa, ba, bn, bc⟩ mact from HRC.out.keep fun q hq hl => ⟨hq, by rw [hwd]; rfl⟩)
        have hdo := RDo_any (HF.out.below HXD.out) (Nat.le_trans HSI.out.1 (by decide)) HSI.out.2 HRD.out HFIT.out HDI.out
        have HDO := hid hdo
        clear d0 d1 d2 d3 d4 d5 d6 q0 q1 q2 q3 q4 hdo
        refine wp_region_held_drew (S := fun W => W.heap[wr.heap.size]? = some (.cells #[.int .i64 0, .string ⟨xn.toArray⟩, .string ⟨xt.toArray⟩, .int .i64 xa, .slice ba bn bc] 124 (0, 0))) (by kernel_rfl) HCC.out (fun hH => ?_)
        rw [← hwd]
        clear hH hwd hxd
        refine hr_ 0 (.pointer (some ⟨g, 0, none⟩)) rfl y0 (fun W hW => ?_) ?_
        · (clear hW; go_simp)
        try simp only [Act.put, sA_, s0_, sS_]
        refine hr_ 1 (.pointer (some ⟨g, 0, none⟩)) rfl y0 (fun W hW => ?_) ?_
        · (clear hW; go_simp)
        try simp only [Act.put, sA_, s0_, sS_]
        refine hr_ 2 (.pointer (some ⟨g, 0, none⟩)) rfl y0 (fun W hW => ?_) ?_
        · (clear hW; go_simp)
        try simp only [Act.put, sA_, s0_, sS_]
        refine hr_ 3 (.pointer (some ⟨g, 1, none⟩)) rfl y0 (fun W hW => ?_) ?_
        · (clear hW; go_simp)
        try simp only [Act.put, sA_, s0_, sS_]
        refine hr_ 5 (.agg #[.int .i64 0, .string ⟨xn.toArray⟩, .string ⟨xt.toArray⟩, .int .i64 xa, .slice ba bn bc]) rfl y0 (fun W hW => ?_) ?_
        · (obtain ⟨k0', k1', k2', k3', k4'⟩ := rcells5 hW; clear hW; go_simp)
        try simp only [Act.put, sA_, s0_, sS_]
        refine hc_ 4 rfl (fun K hK => ?_)
        have d1 := (rcells7 (HCG.out _ HXD.out)).1.2.1
        go_simp
        have y1 := y0
        clear d1
        refine hK.out _ _ y1 (fun hH => ?_)
        clear hK K y0 hH
        have y0 := y1
        clear y1
        try simp only [Act.put, sA_, s0_, sS_]
        refine hc_ 6 rfl (fun K hK => ?_)
        go_simp
        go_at_call 101
        refine Calls.mono HDO.out ?_
        rintro e w5 ⟨a5, n5, c5, rfl, hf, hx5⟩
        have y1 := (hx5.block wr.heap.size (Array.getElem?_eq_some_iff.1 y0).1).trans y0
        have HF5 := hid hf
        have HX5 := hid (HXD.out.trans' hx5)
        have HZ5 := hid hx5.size
        clear hf hx5
        go_wp2_with fail
        refine hK.out _ _ y1 (fun hH => ?_)
        clear hK K y0 hH
        have y0 := y1
        clear y1
        try simp only [Act.put, sA_, s0_, sS_]
        refine hr_ 7 (.pointer (some ⟨g, 0, none⟩)) rfl y0 (fun W hW => ?_) ?_
        · (clear hW; go_simp)
        try simp only [Act.put, sA_, s0_, sS_]
        refine hr_ 8 (.pointer (some ⟨g, 1, none⟩)) rfl y0 (fun W hW => ?_) ?_
        · (clear hW; go_simp)
        try simp only [Act.put, sA_, s0_, sS_]
        refine hc_ 9 rfl (fun K hK => ?_)
        obtain ⟨⟨d0, d1, d2, d3, d4, d5, d6⟩, fz5, hg5⟩ := rcells7 (HCG.out w5 HX5.out)
        have f15 := fz5 1
        have hS := (SetG.start (HCG.out w5 HX5.out)).step 1 (.slice a5 n5 c5)
        go_simp
        generalize w5.setCell ⟨g, 1, none⟩ (.slice a5 n5 c5) = w6 at *
        have y1 := (hS.frm.block wr.heap.size (Array.getElem?_eq_some_iff.1 y0).1 (by show ¬ _ = g; have := hgw; omega)).trans y0
        have HS := hid hS
        clear hS d0 d1 d2 d3 d4 d5 d6 fz5 f15 hg5
        refine hK.out _ _ y1 (fun hH => ?_)
        clear hK K y0 hH
        have y0 := y1
        clear y1
        try simp only [Act.put, sA_, s0_, sS_]
        refine wpAnyH_done (by kernel_rfl) ?_ _
        clear y0
        go_wp2
        go_roundw
        case rel => exact ⟨i + 1, a5, n5, c5, by omega, by go_num, HS.out.obj, hid (by
          rw [HRUN.out]
          refine HF5.out.keep fun q hq hl => ?_
          have h1 := HXD.out.size
          have h2 := HZ5.out
          have h3 := HS.out.size
          have h4 := HFR.out.size
          have hne : q ≠ g := by
            rcases hq with ((hq | hq) | hq) | hq
            · exact hq.2
            · have := hq.1; omega
            · exact hq.2
            have := hq.1; omega
          refine ⟨?_, HS.out.frm.block q hl hne⟩
          rcases hq with ((hq | hq) | hq) | hq
          · exact .inl hq
          · exact .inr ⟨hq.1, by have := hq.2; omega⟩
          · exact .inl hq
          exact .inr ⟨by have := hq.1; omega, by have := hq.2; omega⟩), (HFR.out.then_ext HX5.out).trans HS.out.frm fun q hq => .inl hq⟩
        case measure => simp [intOf]; omega
      have b2 : ((i : Int) == (L : Int) - 1) = false := by simpa using h2
      have hno : ¬ ((0 : Int) = 0 ∧ ((i : Int) = keep - 1 ∨ (i : Int) = (L : Int) - 1) ∧ 0 < tear) := fun h => h.2.1.elim h1 h2
      clear h1 h2
      have HEQ := hid (HNT.out hno)
      have HCC := HCB
      have HXC := HX1
      have HRC := hid (show RaV (fun q => D q ∧ q ≠ g) (wr.alloc (.cells #[.int .i64 0, .string ⟨xn.toArray⟩, .string ⟨xt.toArray⟩, .int .i64 xa, .slice ba bn bc] 124)) ⟨0, xn, xt, xa, ba, bn, bc⟩ mact from by
        rw [HEQ.out]; exact HRA.out.keep fun q hq hl => ⟨hq, HX1.out.block q hl⟩)
      clear hno
      go_wp2
      generalize wr.alloc (.cells #[.int .i64 0, .string ⟨xn.toArray⟩, .string ⟨xt.toArray⟩, .int .i64 xa, .slice ba bn bc] 124) = wc at *
      obtain ⟨wd, hwd⟩ : ∃ wd, wd = wc.drew := ⟨_, rfl⟩
      have hxd : Ext wr wd := by rw [hwd]; exact HXC.out.trans' (ext_drew wc)
      have y0 : wd.heap[wr.heap.size]? = some (.cells #[.int .i64 0, .string ⟨xn.toArray⟩, .string ⟨xt.toArray⟩, .int .i64 xa, .slice ba bn bc] 124 (0, 0)) := by rw [hwd]; exact HCC.out
      have HXD := hid hxd
      have HRD := hid (show RaV (fun q => D q ∧ q ≠ g) wd ⟨0, xn, xt, xa, ba, bn, bc⟩ mact from HRC.out.keep fun q hq hl => ⟨hq, by rw [hwd]; rfl⟩)
      have hdo := RDo_any (HF.out.below HXD.out) (Nat.le_trans HSI.out.1 (by decide)) HSI.out.2 HRD.out HFIT.out HDI.out
      have HDO := hid hdo
      clear d0 d1 d2 d3 d4 d5 d6 q0 q1 q2 q3 q4 hdo
      refine wp_region_held_drew (S := fun W => W.heap[wr.heap.size]? = some (.cells #[.int .i64 0, .string ⟨xn.toArray⟩, .string ⟨xt.toArray⟩, .int .i64 xa, .slice ba bn bc] 124 (0, 0))) (by kernel_rfl) HCC.out (fun hH => ?_)
      rw [← hwd]
      clear hH hwd hxd
      refine hr_ 0 (.pointer (some ⟨g, 0, none⟩)) rfl y0 (fun W hW => ?_) ?_
      · (clear hW; go_simp)
      try simp only [Act.put, sA_, s0_, sS_]
      refine hr_ 1 (.pointer (some ⟨g, 0, none⟩)) rfl y0 (fun W hW => ?_) ?_
      · (clear hW; go_simp)
      try simp only [Act.put, sA_, s0_, sS_]
      refine hr_ 2 (.pointer (some ⟨g, 0, none⟩)) rfl y0 (fun W hW => ?_) ?_
      · (clear hW; go_simp)
      try simp only [Act.put, sA_, s0_, sS_]
      refine hr_ 3 (.pointer (some ⟨g, 1, none⟩)) rfl y0 (fun W hW => ?_) ?_
      · (clear hW; go_simp)
      try simp only [Act.put, sA_, s0_, sS_]
      refine hr_ 5 (.agg #[.int .i64 0, .string ⟨xn.toArray⟩, .string ⟨xt.toArray⟩, .int .i64 xa, .slice ba bn bc]) rfl y0 (fun W hW => ?_) ?_
      · (obtain ⟨k0', k1', k2', k3', k4'⟩ := rcells5 hW; clear hW; go_simp)
      try simp only [Act.put, sA_, s0_, sS_]
      refine hc_ 4 rfl (fun K hK => ?_)
      have d1 := (rcells7 (HCG.out _ HXD.out)).1.2.1
      go_simp
      have y1 := y0
      clear d1
      refine hK.out _ _ y1 (fun hH => ?_)
      clear hK K y0 hH
      have y0 := y1
      clear y1
      try simp only [Act.put, sA_, s0_, sS_]
      refine hc_ 6 rfl (fun K hK => ?_)
      go_simp
      go_at_call 101
      refine Calls.mono HDO.out ?_
      rintro e w5 ⟨a5, n5, c5, rfl, hf, hx5⟩
      have y1 := (hx5.block wr.heap.size (Array.getElem?_eq_some_iff.1 y0).1).trans y0
      have HF5 := hid hf
      have HX5 := hid (HXD.out.trans' hx5)
      have HZ5 := hid hx5.size
      clear hf hx5
      go_wp2_with fail
      refine hK.out _ _ y1 (fun hH => ?_)
      clear hK K y0 hH
      have y0 := y1
      clear y1
      try simp only [Act.put, sA_, s0_, sS_]
      refine hr_ 7 (.pointer (some ⟨g, 0, none⟩)) rfl y0 (fun W hW => ?_) ?_
      · (clear hW; go_simp)
      try simp only [Act.put, sA_, s0_, sS_]
      refine hr_ 8 (.pointer (some ⟨g, 1, none⟩)) rfl y0 (fun W hW => ?_) ?_
      · (clear hW; go_simp)
      try simp only [Act.put, sA_, s0_, sS_]
      refine hc_ 9 rfl (fun K hK => ?_)
      obtain ⟨⟨d0, d1, d2, d3, d4, d5, d6⟩, fz5, hg5⟩ := rcells7 (HCG.out w5 HX5.out)
      have f15 := fz5 1
      have hS := (SetG.start (HCG.out w5 HX5.out)).step 1 (.slice a5 n5 c5)
      go_simp
      generalize w5.setCell ⟨g, 1, none⟩ (.slice a5 n5 c5) = w6 at *
      have y1 := (hS.frm.block wr.heap.size (Array.getElem?_eq_some_iff.1 y0).1 (by show ¬ _ = g; have := hgw; omega)).trans y0
      have HS := hid hS
      clear hS d0 d1 d2 d3 d4 d5 d6 fz5 f15 hg5
      refine hK.out _ _ y1 (fun hH => ?_)
      clear hK K y0 hH
      have y0 := y1
      clear y1
      try simp only [Act.put, sA_, s0_, sS_]
      refine wpAnyH_done (by kernel_rfl) ?_ _
      clear y0
      go_wp2
      go_roundw
      case rel => exact ⟨i + 1, a5, n5, c5, by omega, by go_num, HS.out.obj, hid (by
        rw [HRUN.out]
        refine HF5.out.keep fun q hq hl => ?_
        have h1 := HXD.out.size
        have h2 := HZ5.out
        have h3 := HS.out.size
        have h4 := HFR.out.size
        have hne : q ≠ g := by
          rcases hq with ((hq | hq) | hq) | hq
          · exact hq.2
          · have := hq.1; omega
          · exact hq.2
          have := hq.1; omega
        refine ⟨?_, HS.out.frm.block q hl hne⟩
        rcases hq with ((hq | hq) | hq) | hq
        · exact .inl hq
        · exact .inr ⟨hq.1, by have := hq.2; omega⟩
        · exact .inl hq
        exact .inr ⟨by have := hq.1; omega, by have := hq.2; omega⟩), (HFR.out.then_ext HX5.out).trans HS.out.frm fun q hq => .inl hq⟩
      case measure => simp [intOf]; omega
    have b0 : (xk == 0) = false := by simpa using hx0
    have hno : ¬ (xk = 0 ∧ ((i : Int) = keep - 1 ∨ (i : Int) = (L : Int) - 1) ∧ 0 < tear) := fun h => hx0 h.1
    clear hx0
    have HEQ := hid (HNT.out hno)
    have HCC := HCB
    have HXC := HX1
    have HRC := hid (show RaV (fun q => D q ∧ q ≠ g) (wr.alloc (.cells #[.int .i64 xk, .string ⟨xn.toArray⟩, .string ⟨xt.toArray⟩, .int .i64 xa, .slice ba bn bc] 124)) ⟨xk, xn, xt, xa, ba, bn, bc⟩ mact from by
      rw [HEQ.out]; exact HRA.out.keep fun q hq hl => ⟨hq, HX1.out.block q hl⟩)
    clear hno
    go_wp2
    generalize wr.alloc (.cells #[.int .i64 xk, .string ⟨xn.toArray⟩, .string ⟨xt.toArray⟩, .int .i64 xa, .slice ba bn bc] 124) = wc at *
    obtain ⟨wd, hwd⟩ : ∃ wd, wd = wc.drew := ⟨_, rfl⟩
    have hxd : Ext wr wd := by rw [hwd]; exact HXC.out.trans' (ext_drew wc)
    have y0 : wd.heap[wr.heap.size]? = some (.cells #[.int .i64 xk, .string ⟨xn.toArray⟩, .string ⟨xt.toArray⟩, .int .i64 xa, .slice ba bn bc] 124 (0, 0)) := by rw [hwd]; exact HCC.out
    have HXD := hid hxd
    have HRD := hid (show RaV (fun q => D q ∧ q ≠ g) wd ⟨xk, xn, xt, xa, ba, bn, bc⟩ mact from HRC.out.keep fun q hq hl => ⟨hq, by rw [hwd]; rfl⟩)
    have hdo := RDo_any (HF.out.below HXD.out) (Nat.le_trans HSI.out.1 (by decide)) HSI.out.2 HRD.out HFIT.out HDI.out
    have HDO := hid hdo
    clear d0 d1 d2 d3 d4 d5 d6 q0 q1 q2 q3 q4 hdo
    refine wp_region_held_drew (S := fun W => W.heap[wr.heap.size]? = some (.cells #[.int .i64 xk, .string ⟨xn.toArray⟩, .string ⟨xt.toArray⟩, .int .i64 xa, .slice ba bn bc] 124 (0, 0))) (by kernel_rfl) HCC.out (fun hH => ?_)
    rw [← hwd]
    clear hH hwd hxd
    refine hr_ 0 (.pointer (some ⟨g, 0, none⟩)) rfl y0 (fun W hW => ?_) ?_
    · (clear hW; go_simp)
    try simp only [Act.put, sA_, s0_, sS_]
    refine hr_ 1 (.pointer (some ⟨g, 0, none⟩)) rfl y0 (fun W hW => ?_) ?_
    · (clear hW; go_simp)
    try simp only [Act.put, sA_, s0_, sS_]
    refine hr_ 2 (.pointer (some ⟨g, 0, none⟩)) rfl y0 (fun W hW => ?_) ?_
    · (clear hW; go_simp)
    try simp only [Act.put, sA_, s0_, sS_]
    refine hr_ 3 (.pointer (some ⟨g, 1, none⟩)) rfl y0 (fun W hW => ?_) ?_
    · (clear hW; go_simp)
    try simp only [Act.put, sA_, s0_, sS_]
    refine hr_ 5 (.agg #[.int .i64 xk, .string ⟨xn.toArray⟩, .string ⟨xt.toArray⟩, .int .i64 xa, .slice ba bn bc]) rfl y0 (fun W hW => ?_) ?_
    · (obtain ⟨k0', k1', k2', k3', k4'⟩ := rcells5 hW; clear hW; go_simp)
    try simp only [Act.put, sA_, s0_, sS_]
    refine hc_ 4 rfl (fun K hK => ?_)
    have d1 := (rcells7 (HCG.out _ HXD.out)).1.2.1
    go_simp
    have y1 := y0
    clear d1
    refine hK.out _ _ y1 (fun hH => ?_)
    clear hK K y0 hH
    have y0 := y1
    clear y1
    try simp only [Act.put, sA_, s0_, sS_]
    refine hc_ 6 rfl (fun K hK => ?_)
    go_simp
    go_at_call 101
    refine Calls.mono HDO.out ?_
    rintro e w5 ⟨a5, n5, c5, rfl, hf, hx5⟩
    have y1 := (hx5.block wr.heap.size (Array.getElem?_eq_some_iff.1 y0).1).trans y0
    have HF5 := hid hf
    have HX5 := hid (HXD.out.trans' hx5)
    have HZ5 := hid hx5.size
    clear hf hx5
    go_wp2_with fail
    refine hK.out _ _ y1 (fun hH => ?_)
    clear hK K y0 hH
    have y0 := y1
    clear y1
    try simp only [Act.put, sA_, s0_, sS_]
    refine hr_ 7 (.pointer (some ⟨g, 0, none⟩)) rfl y0 (fun W hW => ?_) ?_
    · (clear hW; go_simp)
    try simp only [Act.put, sA_, s0_, sS_]
    refine hr_ 8 (.pointer (some ⟨g, 1, none⟩)) rfl y0 (fun W hW => ?_) ?_
    · (clear hW; go_simp)
    try simp only [Act.put, sA_, s0_, sS_]
    refine hc_ 9 rfl (fun K hK => ?_)
    obtain ⟨⟨d0, d1, d2, d3, d4, d5, d6⟩, fz5, hg5⟩ := rcells7 (HCG.out w5 HX5.out)
    have f15 := fz5 1
    have hS := (SetG.start (HCG.out w5 HX5.out)).step 1 (.slice a5 n5 c5)
    go_simp
    generalize w5.setCell ⟨g, 1, none⟩ (.slice a5 n5 c5) = w6 at *
    have y1 := (hS.frm.block wr.heap.size (Array.getElem?_eq_some_iff.1 y0).1 (by show ¬ _ = g; have := hgw; omega)).trans y0
    have HS := hid hS
    clear hS d0 d1 d2 d3 d4 d5 d6 fz5 f15 hg5
    refine hK.out _ _ y1 (fun hH => ?_)
    clear hK K y0 hH
    have y0 := y1
    clear y1
    try simp only [Act.put, sA_, s0_, sS_]
    refine wpAnyH_done (by kernel_rfl) ?_ _
    clear y0
    go_wp2
    go_roundw
    case rel => exact ⟨i + 1, a5, n5, c5, by omega, by go_num, HS.out.obj, hid (by
      rw [HRUN.out]
      refine HF5.out.keep fun q hq hl => ?_
      have h1 := HXD.out.size
      have h2 := HZ5.out
      have h3 := HS.out.size
      have h4 := HFR.out.size
      have hne : q ≠ g := by
        rcases hq with ((hq | hq) | hq) | hq
        · exact hq.2
        · have := hq.1; omega
        · exact hq.2
        have := hq.1; omega
      refine ⟨?_, HS.out.frm.block q hl hne⟩
      rcases hq with ((hq | hq) | hq) | hq
      · exact .inl hq
      · exact .inr ⟨hq.1, by have := hq.2; omega⟩
      · exact .inl hq
      exact .inr ⟨by have := hq.1; omega, by have := hq.2; omega⟩), (HFR.out.then_ext HX5.out).trans HS.out.frm fun q hq => .inl hq⟩
    case measure => simp [intOf]; omega
  have hiN : i = N := by omega
  have HTK := hid (show runAll s.last (M.take i) = runAll s.last M by rw [List.take_of_length_le (by have := HML.out; omega)])
  have HIN := hid hiN
  clear hiN hlt
  by_cases hiL : i < L
  · have hi2 : i < s.acts.length := by have := HL.out; omega
    obtain ⟨b, cc, x, hav, hbl, hra, q0, q1, q2, q3, q4⟩ := HACT.out i hi2
    injection hav with e1 e2 e3
    have hbg : b ≠ g := fun e => HI.out.gav (by rw [e1, e]; rfl)
    subst e1; subst e3
    have qc : ∀ j, wr.cell? ⟨b, j, none⟩ = w.cell? ⟨b, j, none⟩ := fun j => HFR.out.cell (p := ⟨b, j, none⟩) hbl hbg
    have q0 := (qc _).trans q0
    have q1 := (qc _).trans q1
    have q2 := (qc _).trans q2
    have q3 := (qc _).trans q3
    have q4 := (qc _).trans q4
    obtain ⟨xk, xn, xt, xa, ba, bn, bc⟩ := x
    dsimp only at q0 q1 q2 q3 q4
    have hkeep : ¬ (i : Int) < keep := by have := HN.out; have := HIN.out; omega
    have hge : keep ≤ (i : Int) := by omega
    have hiL2 : (i : Int) < (L : Int) := by omega
    clear hiL
    have hi0 : (0 : Int) ≤ (i : Int) := by omega
    have x1 := ext_alloc wr (.cells #[.int .i64 xk, .string ⟨xn.toArray⟩, .string ⟨xt.toArray⟩, .int .i64 xa, .slice ba bn bc] 124)
    have HX1 := hid x1
    have HG1 := hid ((x1.block g hgw).trans HG.out)
    clear hra qc hbg x1
    go_wp2
    go_end0
    exact (rfall_done HI.out HG.out (by rw [← HTK.out]; exact HF.out) HFR.out (Below.refl _ _) ((((SetG.start HG.out).step 2 (.slice none 0 0)).step 3 (.bool true)).step 4 (.int .i64 0)) HROOM.out hgl).ext (ext_alloc _ _)
  have hiL2 : ¬ (i : Int) < (L : Int) := by omega
  clear hiL
  go_wp2
  go_end0
  exact rfall_done HI.out HG.out (by rw [← HTK.out]; exact HF.out) HFR.out (Below.refl _ _) ((((SetG.start HG.out).step 2 (.slice none 0 0)).step 3 (.bool true)).step 4 (.int .i64 0)) HROOM.out hgl
end Go.Proofs.YtjapeaoebjmpnaaGreatDoor
