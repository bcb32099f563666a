/- The walks of the reference's Sync, Used, List, Write. Printed by gen_rd11.py. -/
import Derived.Test.YtjapeaoebjmpnaaGreatDoorB36
namespace Go.Proofs.YtjapeaoebjmpnaaGreatDoor
open Go.RowKit Go.Maps
set_option linter.unusedVariables false
set_option linter.unusedSimpArgs false
attribute [local go_sem] bmax2 bmin2 bmax_two bmin_two

theorem rsync_done {D : Nat → Prop} {w w2 wz : World} {g : Nat} {s : DS} {la : Option Addr} {ln lc : Nat} {av : Value} {H : List RH} {k t : Int} {T : Tab} {va : Option Addr} {vn vc : Nat} (h : RDkIn D w g s la ln lc av H k t)
    (hf : FsF (fun q => (D q ∧ q ≠ g) ∨ w.heap.size ≤ q ∧ q < w2.heap.size) w2 va vn vc T) (hx : Ext w w2)
    (hS : SetG g 67 w2 wz #[.int .i64 s.room, .slice va vn vc, .slice none 0 0, .bool s.off, .int .i64 s.left, .int .i64 k, .int .i64 t]) (hgl : g < w.heap.size) :
    RDk (grow D w wz) wz g { s with seen := T, last := T, acts := [] } ∧ Frm D w wz := by
  have z2 := hx.size
  have z3 := hS.size
  have hfz : Frm (fun q => q = g) w wz := (Frm.of_ext hx _).trans hS.frm fun q hq => .inl hq
  refine ⟨⟨va, vn, vc, .slice none 0 0, [], k, t, ⟨hS.obj, h.arm, h.k64, hf.keep fun q hq hl => ?_, World.ownsRow_nil _ _ _ _, trivial, .inl h.dg, (fun b hb => by cases hb), (fun e => by cases e), fun q hq => ?_⟩⟩, hfz.more fun q e => by subst e; exact h.dg⟩
  · have hne : q ≠ g := by
      rcases hq with hq | hq
      · exact hq.2
      have := hq.1; omega
    refine ⟨⟨?_, hne, fun e => by cases e⟩, hS.frm.block q hl hne⟩
    rcases hq with hq | hq
    · exact .inl hq.1
    exact .inr ⟨hq.1, by omega⟩
  rcases hq with hq | hq
  · have := h.lt q hq; omega
  exact hq.2
set_option maxRecDepth 100000 in
set_option maxHeartbeats 8000000 in
theorem RSync_any {D : Nat → Prop} {w : World} {g : Nat} {s : DS} (h : RDk D w g s) (hok : s.Ok) (hc : s.acts.length < 1000000000000) :
    Calls Tryz.prog 77 #[.pointer (some ⟨g, 0, none⟩)] w (RPost D g s.sync w) := by
  have hc3 := h.c3.1
  have H := hid h
  have HHIT := hid (RHit_any h hok)
  have hsy : s.sync = if s.off = true then (22, s) else if s.hit.1 = true then (22, s.hit.2.fall s.keep s.tear) else (0, { s.hit.2 with last := s.seen, acts := [] }) := rfl
  obtain ⟨off, hoff⟩ : ∃ off, off = s.off := ⟨_, rfl⟩
  rw [← hoff] at hc3 hsy
  have HOK := hid hok
  have HC := hid hc
  obtain ⟨R, hR⟩ : ∃ R, R = s.sync := ⟨_, rfl⟩
  rw [← hR] at hsy ⊢
  have HR := hid hsy
  clear h hok hc hsy hoff hR
  cases off with
  | true =>
    go_enter Tryz.func77, Tryz.ntmps77
    go_wp2
    go_ret
    rw [HR.out, if_pos trivial]
    exact RPost.same H.out (Below.refl _ _) 22
  | false =>
    go_enter Tryz.func77, Tryz.ntmps77
    go_wp2_with fail
    refine Calls.mono HHIT.out ?_
    rintro e w1 ⟨rfl, hd1, hf1, hz1, h5, h6⟩
    have hhb : s.hit.1 = true ∨ s.hit.1 = false := by cases s.hit.1 <;> simp
    have hac : s.hit.2.acts.length < 1000000000000 := by rw [DS.hit_acts]; exact HC.out
    have HD1 := hid hd1
    have HF1 := hid hf1
    have HZ1 := hid hz1
    rcases hhb with hhb | hhb
    · have hre := HR.out
      rw [if_neg (by simp), if_pos hhb] at hre
      have hleft : s.left ≠ 0 := fun e => by
        unfold DS.hit at hhb
        rw [if_pos e] at hhb
        cases hhb
      obtain ⟨la, ln, lc, av, HH, k, t, hin⟩ := H.out
      obtain ⟨kk, tt⟩ := hin.arm hleft
      have q5 := h5.trans (rcells7 hin.obj).1.2.2.2.2.2.1
      have q6 := h6.trans (rcells7 hin.obj).1.2.2.2.2.2.2
      have hfa := RFall_any (hd1.below (ext_drew w1)) HOK.out.hit hac k t hin.k64.1 hin.k64.2
      rw [kk, tt] at hfa
      have HFA := hid hfa
      have HRE := hid hre
      rw [kk] at q5
      rw [tt] at q6
      have HLT := hid hin.lt
      rw [hhb]
      clear hd1 hf1 hz1 h5 h6 hac hre hleft hin kk tt hfa hhb
      go_wp2_with fail
      go_still_tail 9, (by kernel_rfl)
      change wpList _ _ _ _ _ w1.drew
      go_wp2_with (go_at_call 80; refine Calls.mono HFA.out ?_; rintro e w2 ⟨rfl, hd2, hf2⟩; have HD2 := hid hd2; have HF2 := hid hf2; clear hd2 hf2)
      go_ret
      rw [HRE.out]
      have hz := HZ1.out
      have hz2 := HF2.out.size
      have hzd : w1.drew.heap.size = w1.heap.size := rfl
      refine ⟨rfl, HD2.out.more (fun q hq => ?_) (fun q hq => ?_), (HF1.out.then_ext (ext_drew w1)).trans HF2.out fun q hq => .inl hq⟩
      · rcases hq with hq | hq
        · exact .inl hq
        exact .inr ⟨by have := hq.1; omega, hq.2⟩
      rcases hq with hq | hq
      · have := HLT.out q hq; omega
      exact hq.2
    have hre := HR.out
    rw [if_neg (by simp), if_neg (by rw [hhb]; simp)] at hre
    have HRE := hid hre
    have hfi := RFiles_any hd1 HOK.out.hit hac
    have hse : s.hit.2.seen = s.seen := by unfold DS.hit; split <;> rfl
    rw [hse] at hfi
    have HFI := hid hfi
    rw [hhb]
    clear hd1 hf1 hz1 h5 h6 hac hre hfi hhb hse
    go_wp2_with fail
    refine Calls.mono HFI.out ?_
    rintro e w2 ⟨a2, n2, c2, rfl, hf, hx2⟩
    obtain ⟨la, ln, lc, av, HH, k, t, hin⟩ := HD1.out
    have hg2 := (hx2.block g (rcells7 hin.obj).2.2).trans hin.obj
    obtain ⟨⟨d0, d1, d2, d3, d4, d5, d6⟩, fz, hgl⟩ := rcells7 hg2
    have f1 := fz 1
    have f2 := fz 2
    have HIN := hid hin
    have HF := hid hf
    have HX2 := hid hx2
    have HG2 := hid hg2
    obtain ⟨aa, ac, hav⟩ := own_slice2 hin.row
    subst hav
    clear fz hin hf hx2 hg2 HFI
    go_wp2
    go_ret
    rw [HRE.out]
    obtain ⟨r1, r2⟩ := rsync_done HIN.out HF.out HX2.out (((SetG.start HG2.out).step 1 (.slice a2 n2 c2)).step 2 (.slice none 0 0)) (rcells7 HIN.out.obj).2.2
    have hz := HZ1.out
    have hz2 := r2.size
    have hso : ({ s.hit.2 with seen := s.seen, last := s.seen, acts := [] } : DS) = { s.hit.2 with last := s.seen, acts := [] } := by unfold DS.hit; split <;> rfl
    rw [hso] at r1
    refine ⟨rfl, r1.more (fun q hq => ?_) (fun q hq => ?_), HF1.out.trans r2 fun q hq => .inl hq⟩
    · rcases hq with hq | hq
      · exact .inl hq
      exact .inr ⟨by have := hq.1; omega, hq.2⟩
    rcases hq with hq | hq
    · have := H.out.lt q hq; omega
    exact hq.2
/-! ### Used -/
theorem tTot_app (S T : Tab) : tTot (S ++ T) = tTot S + tTot T := by unfold tTot; rw [List.map_append, List.sum_append]
theorem tTot_take (T : Tab) (k : Nat) : tTot (T.take k) ≤ tTot T := by
  have := tTot_app (T.take k) (T.drop k)
  rw [List.take_append_drop] at this
  omega
theorem tTot_succ (T : Tab) {k : Nat} (hk : k < T.length) : tTot (T.take (k + 1)) = tTot (T.take k) + T[k].2.length := by
  rw [List.take_succ_eq_append_getElem hk, tTot_app]
  simp [tTot]
theorem aTot_succ (l : List ActS) {k : Nat} (hk : k < l.length) : aTot (l.take (k + 1)) = aTot (l.take k) + l[k].data.length := by
  rw [List.take_succ_eq_append_getElem hk, aTot_append]; simp [aTot]
set_option maxRecDepth 100000 in
set_option maxHeartbeats 8000000 in
theorem RUsed_any {D : Nat → Prop} {w : World} {g : Nat} {s : DS} (h : RDk D w g s) (hok : s.Ok) (hc : s.acts.length < 1000000000000) :
    Calls Tryz.prog 69 #[.pointer (some ⟨g, 0, none⟩)] w (fun e w' => e = .returned (.int .i64 (if s.off = true then 0 else (s.used : Int))) ∧ Ext w w') := by
  obtain ⟨la, ln, lc, av, H, k, t, h⟩ := h
  obtain ⟨⟨c0, c1, c2, c3, c4, c5, c6⟩, -, hgl⟩ := rcells7 h.obj
  obtain ⟨aa, ac, hav⟩ := own_slice2 h.row
  have HLS := hid h.last
  have HACT := hid (fun i (hi : i < s.acts.length) => h.act hi)
  have hlt16 : tTot s.last ≤ 16777216 ∧ aTot s.acts ≤ 16777216 := hok.run.2.2.2
  have HL16 := hid hlt16
  have hln := h.last.1
  have hln2 := h.last.2.2.1.2
  have HLN := hid hln
  obtain ⟨N, hN⟩ : ∃ N, N = s.acts.length := ⟨_, rfl⟩
  have HNN := hid hN
  subst hav
  rw [← hN] at hc c2
  obtain ⟨off, hoff⟩ : ∃ off, off = s.off := ⟨_, rfl⟩
  rw [← hoff] at c3 ⊢
  have HUS := hid (show s.used = tTot s.last + aTot s.acts from rfl)
  clear h hok hN hln hlt16 hoff
  cases off with
  | true =>
    go_enter Tryz.func69, Tryz.ntmps69
    go_wp2
    go_ret
    exact ⟨rfl, Below.refl _ _⟩
  | false =>
    go_enter Tryz.func69, Tryz.ntmps69
    go_wp2
    go_loopw [3, 5, 17] (fun x _ z wr => ∃ (i m : Nat), i ≤ ln ∧ z = .int .i64 (i : Int) ∧ x = .int .i64 (m : Int) ∧ Hid (m = tTot (s.last.take i)) ∧ m ≤ 16777216 ∧ Hid (Ext w wr)) (fun _ _ z _ => ln - (intOf z).toNat)
    case atStart => exact ⟨0, 0, Nat.zero_le _, rfl, rfl, hid (by simp [tTot]), by omega, Below.refl _ _⟩
    obtain ⟨i, m, hi, rfl, rfl, HM, hm, HX⟩ := hrel
    by_cases hlt : i < ln
    · obtain ⟨b, o, rfl, -, hbl, hkl, q0, va, vn, vc, q1, hby⟩ := (HLS.out.below HX.out).at_ hlt
      have hsu := tTot_succ s.last hkl
      have hta := tTot_take s.last (i + 1)
      have hvn := hby.1
      rw [← hvn, ← HM.out] at hsu
      generalize s.last[i] = p at *
      obtain ⟨pn, pb⟩ := p
      dsimp only at q0 hby hvn
      have hii : (i : Int) < (ln : Int) := by omega
      have hii0 : (0 : Int) ≤ (i : Int) := by omega
      obtain ⟨m2, hm2⟩ : ∃ m2, m2 = m + vn := ⟨_, rfl⟩
      have hm2l : m2 ≤ 16777216 := by have := HL16.out.1; omega
      have hme : (m : Int) + (vn : Int) = (m2 : Int) := by omega
      have hmw : IntKind.i64.wrap (m2 : Int) = (m2 : Int) := IntWalk.i64_in _ ⟨by omega, by omega⟩
      have HSU := hid (show m2 = tTot (s.last.take (i + 1)) by omega)
      have HX1 := hid (HX.out.trans' (ext_alloc wr (.cells #[.string ⟨pn.toArray⟩, .slice va vn vc] 147)))
      clear hsu hta hvn hby hm2 HM
      go_wp2
      go_roundw
      case rel => exact ⟨i + 1, m2, by omega, by go_num, rfl, HSU.out, hm2l, HX1.out⟩
      case measure => simp [intOf]; omega
    have hin : i = ln := by omega
    have HMT := hid (show m = tTot s.last by rw [HM.out, hin, HLN.out, List.take_length])
    have HIN := hid hin
    have hii : ¬ (i : Int) < (ln : Int) := by omega
    have d2 := (HX.out.cell (p := ⟨g, 2, none⟩) hgl).trans c2
    clear hin hlt HM
    go_wp2
    generalize wr = wy at *
    go_loopw [3, 7, 32] (fun x _ z wr => ∃ (j m2 : Nat), j ≤ N ∧ z = .int .i64 (j : Int) ∧ x = .int .i64 (m2 : Int) ∧ Hid (m2 = m + aTot (s.acts.take j)) ∧ m2 ≤ 33554432 ∧ Hid (Ext w wr)) (fun _ _ z _ => N - (intOf z).toNat)
    case atStart => exact ⟨0, m, Nat.zero_le _, rfl, rfl, hid (by simp [aTot]), by omega, HX.out⟩
    obtain ⟨j, m2, hj, rfl, rfl, HM2, hm2, HX2⟩ := hrel
    by_cases hlt2 : j < N
    · have hi2 : j < s.acts.length := by rw [← HNN.out]; exact hlt2
      obtain ⟨b, cc, x, hav, hbl, hra, q0, q1, q2, q3, q4⟩ := HACT.out j hi2
      injection hav with e1 e2 e3
      subst e1; subst e3
      have qc : ∀ i, wr.cell? ⟨b, i, none⟩ = w.cell? ⟨b, i, none⟩ := fun i => HX2.out.cell (p := ⟨b, i, none⟩) hbl
      have q0 := (qc _).trans q0
      have q1 := (qc _).trans q1
      have q2 := (qc _).trans q2
      have q3 := (qc _).trans q3
      have q4 := (qc _).trans q4
      have hsu := aTot_succ s.acts hi2
      have hta := aTot_takeR s.acts (j + 1)
      have hbn := hra.2.1
      rw [← hbn] at hsu
      obtain ⟨xk, xn, xt, xa, ba, bn, bc⟩ := x
      dsimp only at q0 q1 q2 q3 q4 hsu
      obtain ⟨m3, hm3⟩ : ∃ m3, m3 = m2 + bn := ⟨_, rfl⟩
      have hm3l : m3 ≤ 33554432 := by have := HL16.out.2; have := HM2.out; omega
      have hme : (m2 : Int) + (bn : Int) = (m3 : Int) := by omega
      have hmw : IntKind.i64.wrap (m3 : Int) = (m3 : Int) := IntWalk.i64_in _ ⟨by omega, by omega⟩
      have HSU := hid (show m3 = m + aTot (s.acts.take (j + 1)) by have := HM2.out; omega)
      have hji : (j : Int) < (N : Int) := by omega
      have hji0 : (0 : Int) ≤ (j : Int) := by omega
      have HX3 := hid (HX2.out.trans' (ext_alloc wr (.cells #[.int .i64 xk, .string ⟨xn.toArray⟩, .string ⟨xt.toArray⟩, .int .i64 xa, .slice ba bn bc] 124)))
      clear hra qc hsu hta hbn hm3 HM2
      go_wp2
      go_roundw
      case rel => exact ⟨j + 1, m3, by omega, by go_num, rfl, HSU.out, hm3l, HX3.out⟩
      case measure => simp [intOf]; omega
    have hjn : j = N := by omega
    have HR := hid (show m2 = s.used by rw [HM2.out, HMT.out, hjn, HNN.out, List.take_length, HUS.out])
    have hji : ¬ (j : Int) < (N : Int) := by omega
    clear hjn hlt2 HM2
    go_wp2
    go_ret
    exact ⟨by rw [← HR.out]; rfl, HX2.out⟩
/-! ### List -/
theorem info_str : (Tryz.prog.info? 9).map (fun i => (i.zero, i.size, i.bytes)) = some (some (.string ⟨#[]⟩), 1, 16) := by kernel_rfl
set_option maxRecDepth 100000 in
set_option maxHeartbeats 8000000 in
theorem RList_any {D : Nat → Prop} {w : World} {g : Nat} {s : DS} (h : RDk D w g s) (hok : s.Ok) (hc : s.acts.length < 1000000000000) :
    Calls Tryz.prog 71 #[.pointer (some ⟨g, 0, none⟩)] w (ListPost s w) := by
  have hc3 := h.c3.1
  have HFI := hid (RFiles_any h hok hc)
  have hli : s.list = if s.off = true then [] else s.seen.map Prod.fst := rfl
  have hsl := hok.run.2.1
  obtain ⟨off, hoff⟩ : ∃ off, off = s.off := ⟨_, rfl⟩
  rw [← hoff] at hc3 hli
  have HLI := hid hli
  have HSL := hid hsl
  clear h hok hc hli hoff hsl
  cases off with
  | true =>
    go_enter Tryz.func71, Tryz.ntmps71
    go_wp2
    go_ret
    refine ⟨_, rfl, ?_, Below.refl _ _⟩
    have : s.list = [] := by rw [HLI.out]; simp
    rw [this]
    exact World.ownsRow_nil _ _ _ _
  | false =>
    have HL2 := hid (show s.list = s.seen.map Prod.fst by rw [HLI.out]; simp)
    clear HLI
    go_enter Tryz.func71, Tryz.ntmps71
    go_wp2_with fail
    refine Calls.mono HFI.out ?_
    rintro e w1 ⟨a2, n2, c2, rfl, hf, hx1⟩
    have hn2 := hf.1
    have hn4 : n2 ≤ 4096 := by have := HSL.out; omega
    have HF := hid hf
    have HN := hid hn2
    have HX1 := hid hx1
    clear hf hx1 hn2 HFI
    go_wp2
    go_loopw [3, 5, 14] (fun v _ z wr => ∃ (i : Nat), i ≤ n2 ∧ z = .int .i64 (i : Int) ∧ Hid (wr.ownsRow w1.heap.size 9 1 v i ((s.seen.map Prod.fst).take i |>.map strV)) ∧ Hid (Ext w1 wr)) (fun _ _ z _ => n2 - (intOf z).toNat)
    case atStart => exact ⟨0, Nat.zero_le _, rfl, hid (World.ownsRow_nil _ _ _ _), Below.refl _ _⟩
    obtain ⟨i, hi, rfl, HO, HX⟩ := hrel
    by_cases hlt : i < n2
    · obtain ⟨b, o, rfl, -, hbl, hkl, q0, va, vn, vc, q1, -⟩ := (HF.out.below HX.out).at_ hlt
      have htk : ((s.seen.map Prod.fst).take (i + 1)).map strV = ((s.seen.map Prod.fst).take i).map strV ++ [strV s.seen[i].1] := by
        rw [List.take_succ_eq_append_getElem (by rw [List.length_map]; exact hkl), List.map_append, List.getElem_map]; rfl
      generalize s.seen[i] = p at *
      obtain ⟨pn, pb⟩ := p
      dsimp only at q0 htk
      have HTK := hid htk
      have hii : (i : Int) < (n2 : Int) := by omega
      have hii0 : (0 : Int) ≤ (i : Int) := by omega
      obtain ⟨av, ac, rfl⟩ := own_slice2 HO.out
      have x1 := ext_alloc wr (.cells #[.string ⟨pn.toArray⟩, .slice va vn vc] 147)
      have x2 := ext_alloc (wr.alloc (.cells #[.string ⟨pn.toArray⟩, .slice va vn vc] 147)) (.cells #[.string ⟨pn.toArray⟩] 9)
      have HX3 := hid (HX.out.trans' (x1.trans' x2))
      have HO2 := hid ((HO.out.alloc (.cells #[.string ⟨pn.toArray⟩, .slice va vn vc] 147)).alloc (.cells #[.string ⟨pn.toArray⟩] 9))
      have hrow := rnews_row (wr.alloc (.cells #[.string ⟨pn.toArray⟩, .slice va vn vc] 147)) [.string ⟨pn.toArray⟩] 1 1 9 rfl
      rw [World.size_alloc] at hrow
      have HROW := hid hrow
      clear htk x1 x2 hrow
      go_wp2_with (at_builtin; refine wpList_append_row rfl (.tmp 18) (.tmp 21) _ rfl w1.heap.size 9 (.string ⟨#[]⟩) 1 16 Tryz.underlying110 info_str rfl (by decide) (.slice av i ac) i _ rfl HO2.out (some ⟨wr.heap.size + 1, 0, none⟩) 1 1 [.string ⟨pn.toArray⟩] rfl (fun e => by cases e) HROW.out (by intro u hu; simp at hu; rw [hu]; rfl) (by unfold maxLen; omega) (by omega) HX3.out.size ?_; intro v' w5 hown5 hg5; obtain ⟨a5, c5, rfl⟩ := own_slice2 hown5; have HX5 := hid (HX3.out.grown hg5 (HX3.out.size) (fun q hq => (HO2.out.lt q hq).1)); have HO5 := hid hown5; clear hown5 hg5)
      go_roundw
      case rel => exact ⟨i + 1, by omega, by go_num, hid (by rw [HTK.out]; exact HO5.out), HX5.out⟩
      case measure => simp [intOf]; omega
    have hin : i = n2 := by omega
    have HT := hid (show i = s.list.length ∧ (s.seen.map Prod.fst).take i = s.list by
      rw [HL2.out, List.length_map, hin, HN.out]
      exact ⟨rfl, by rw [List.take_of_length_le (by rw [List.length_map]; exact Nat.le_refl _)]⟩)
    have hii : ¬ (i : Int) < (n2 : Int) := by omega
    obtain ⟨av, ac, rfl⟩ := own_slice2 HO.out
    clear hin hlt
    go_wp2
    go_ret
    refine ⟨_, rfl, ?_, HX1.out.trans' HX.out⟩
    have ho := HO.out
    rw [HT.out.2, HT.out.1] at ho
    rw [HT.out.1]
    exact ⟨ho.1, ho.2.imp id fun ⟨g5, cp, cur, h1, h2, h3⟩ => ⟨g5, cp, cur, h1, by have := HX1.out.size; omega, h3⟩⟩
end Go.Proofs.YtjapeaoebjmpnaaGreatDoor

/- The walk of the reference's Write. Printed by gen_rd12.py. -/
namespace Go.Proofs.YtjapeaoebjmpnaaGreatDoor
open Go.RowKit Go.Maps
set_option linter.unusedVariables false
set_option linter.unusedSimpArgs false
attribute [local go_sem] bmax2 bmin2 bmax_two bmin_two

/-- An act whose bytes lie in memory of the caller's own. -/
theorem RAdd_own {D : Nat → Prop} {w0 w : World} {g : Nat} {s : DS} (h : RDk D w g s) (hx0 : Ext w0 w) (hD : ∀ q, D q → q < w0.heap.size) {x : RH} {act : ActS} (hk : RaK x act) (hb : ByF (fun q => w0.heap.size ≤ q ∧ q < w.heap.size) w x.a x.n x.c act.data) (hok : s.Ok) (hoff : s.off = false)
    (hfit : act.Fits s.seen) (hr : (act.data.length : Int) ≤ s.room - s.used) (hc : s.acts.length < 100000000000) :
    Calls Tryz.prog 70 #[.pointer (some ⟨g, 0, none⟩), x.val] w (RPost D g (s.does act) w0) := by
  have z0 := hx0.size
  have h2 : RDk (grow D w0 w) w g s := h.more (fun q hq => .inl hq) (grow.lt hD z0)
  have hg := h.c3.2.2
  obtain ⟨la, ln, lc, av, H, k, t, hin⟩ := h
  have hin2 : RDkIn (grow D w0 w) w g s la ln lc av H k t := hin.keep (fun q hq => ⟨.inl hq, rfl⟩) (grow.lt hD z0)
  refine (RAdd_in hin2 ⟨hk, hb.more fun q hq => ⟨.inr hq, fun e => ?_, fun e => ?_⟩⟩ hok hoff hfit hr hc).mono ?_
  · have := hD g hg; have := hq.1; omega
  · have := hD q (hin.dav q e.symm); have := hq.1; omega
  rintro e w' ⟨h1, h3, h4⟩
  have z1 := h4.size
  refine ⟨h1, h3.more (fun q hq => ?_) (fun q hq => ?_), (Frm.of_ext hx0 D).trans h4 fun q hq => ?_⟩
  · rcases hq with (hq | hq) | hq
    · exact .inl hq
    · exact .inr ⟨hq.1, by have := hq.2; omega⟩
    exact .inr ⟨by have := hq.1; omega, hq.2⟩
  · rcases hq with hq | hq
    · have := hD q hq; omega
    exact hq.2
  rcases hq with hq | hq
  · exact .inl hq
  exact .inr hq.1
set_option maxRecDepth 100000 in
set_option maxHeartbeats 8000000 in
theorem RWrite_any {D F : Nat → Prop} {w : World} {g : Nat} {s : DS} (h : RDk D w g s) (hok : s.Ok) (hc : s.acts.length < 100000000000) (nm : Nm) (hn : nm.length ≤ maxLen) (k : Int) (hk64 : In64 k) {ba : Option Addr} {bn bc : Nat} {b : By} (hb : ByF F w ba bn bc b) :
    Calls Tryz.prog 28 #[.pointer (some ⟨g, 0, none⟩), .string ⟨nm.toArray⟩, .int .i64 k, .slice ba bn bc] w (RPost D g (s.write nm k b) w) := by
  have H := hid h
  have HWH := hid (RWhy_any h hok (by omega) nm hn)
  have HFI := hid (fun W (hW : Ext w W) => RFiles_any (h.below hW) hok (by omega))
  have HUS := hid (fun W (hW : Ext w W) => RUsed_any (h.below hW) hok (by omega))
  have HDL := hid h.lt
  have hwr : s.write nm k b = if s.find nm = 21 ∧ k = 0 then (if s.seen.length ≥ 4096 then (7, s) else if (b.length : Int) > s.room - s.used then (7, s) else s.does (.write nm 0 b))
      else if s.find nm ≠ 0 then (s.find nm, s) else if k < 0 ∨ k > (tOld s.seen nm).length then (1, s) else if (b.length : Int) > s.room - s.used then (7, s) else s.does (.write nm k.toNat b) := rfl
  have hbn := hb.1
  have hbn47 := hb.2.2.1.2
  have HBN := hid hbn
  have HB := hid hb
  have hrm0 := hok.room0
  have hrm1 := hok.room1
  have husd := hok.used
  have hus0 : s.used ≤ 16777216 := by omega
  have HADD := hid (fun (W : World) (hW : Ext w W) (a : Option Addr) (n c : Nat) (hby : ByF (fun q => w.heap.size ≤ q ∧ q < W.heap.size) W a n c b) (hoff : s.off = false) (q : Nat) (hfit : (ActS.write nm q b).Fits s.seen) (hr : (b.length : Int) ≤ s.room - s.used) =>
    RAdd_own (h.below hW) hW h.lt (x := ⟨0, nm, [], (q : Int), a, n, c⟩) (act := .write nm q b) ⟨rfl, rfl, rfl⟩ hby hok hoff hfit hr hc)
  have HSEEN := hid hok.run
  have HC0 := hid (fun W (hW : Ext w W) => (show W.cell? ⟨g, 0, none⟩ = some (.int .i64 s.room) from by
    obtain ⟨la, ln, lc, av, HH, kk, t, hin⟩ := h.below hW
    exact (rcells7 hin.obj).1.1))
  have HF0 := hid (fun hz : s.find nm = 0 => DS.find_zero hz)
  have HF21 := hid (fun hz : s.find nm = 21 => DS.find_21 hz)
  obtain ⟨z, hz⟩ : ∃ z, z = s.find nm := ⟨_, rfl⟩
  rw [← hz] at hwr HWH HF0 HF21
  obtain ⟨R, hR⟩ : ∃ R, R = s.write nm k b := ⟨_, rfl⟩
  rw [← hR] at hwr ⊢
  obtain ⟨room, hroom⟩ : ∃ room, room = s.room := ⟨_, rfl⟩
  obtain ⟨used, hused⟩ : ∃ used, used = s.used := ⟨_, rfl⟩
  rw [← hroom, ← hused] at hwr husd
  rw [← hroom] at hrm0 hrm1 HC0
  rw [← hused] at hus0 HUS
  rw [← hroom, ← hused] at HADD
  have HR := hid hwr
  clear h hok hc hn hb hbn hwr hz hR hroom hused
  by_cases hA : z = 21 ∧ k = 0
  · obtain ⟨hA1, hA2⟩ := hA
    have hre0 := HR.out
    rw [if_pos ⟨hA1, hA2⟩] at hre0
    have HRE0 := hid hre0
    have hfd := HF21.out hA1
    have HFD := hid hfd
    subst hA1; subst hA2
    clear hre0 HF0 HF21 HR hfd
    go_enter Tryz.func28, Tryz.ntmps28
    go_wp2_with fail
    refine Calls.mono HWH.out ?_
    rintro e w1 ⟨rfl, hx1⟩
    have HX1 := hid hx1
    clear hx1
    go_wp2_with fail
    refine Calls.mono (HFI.out w1 HX1.out) ?_
    rintro e w2 ⟨a2, n2, c2, rfl, hf, hx2⟩
    have hn2 := hf.1
    have HX2 := hid (HX1.out.trans' hx2)
    have HN2 := hid hn2
    have hn5 : n2 ≤ 10000 := hf.2.2.1.2
    clear hf hx2 hn2
    by_cases hful : 4096 ≤ n2
    · have hfi : (4096 : Int) ≤ (n2 : Int) := by omega
      have hre := HRE0.out
      rw [if_pos (by have := HN2.out; omega)] at hre
      have HRE := hid hre
      clear hre hful
      go_wp2
      go_ret
      rw [HRE.out]
      exact RPost.same H.out HX2.out 7
    have hfi : ¬ (4096 : Int) ≤ (n2 : Int) := by omega
    have hre := HRE0.out
    rw [if_neg (by have := HN2.out; omega)] at hre
    have HRX := hid hre
    have HLN := hid (show s.seen.length < 4096 by have := HN2.out; omega)
    clear hre hful HRE0
    go_wp2_with fail
    refine Calls.mono (HFI.out w2 HX2.out) ?_
    rintro e w3 ⟨a3, n3, c3, rfl, hf, hx3⟩
    have HX3 := hid (HX2.out.trans' hx3)
    have HG := hid (Rget_any hf nm)
    clear hf hx3
    go_wp2_with fail
    refine Calls.mono HG.out ?_
    rintro e w4 hp
    obtain ⟨oa, on, oc, f, rfl, hby, hx4⟩ := hp.old
    have w4X := HX3.out.trans' hx4
    have hon : on ≤ 140737488351232 := hby.2.2.1.2
    have hon0 : (0 : Int) ≤ (on : Int) := by omega
    clear hp hby hx4 HG
    go_wp2
    have HOFF := hid HFD.out.1
    have y0 : Ext w w4.drew := w4X.trans' (ext_drew w4)
    refine wp_region_held_drew (S := fun W => Ext w W) (by kernel_rfl) y0 (fun hH => ?_)
    clear hH
    refine hr_ 0 (.slice ba bn bc) rfl y0 (fun W hW => ?_) ?_
    · (clear hW; go_simp)
    try simp only [Act.put, sA_, s0_, sS_]
    refine hr_ 1 (.int .i64 (bn : Int)) rfl y0 (fun W hW => ?_) ?_
    · (clear hW; go_simp)
    try simp only [Act.put, sA_, s0_, sS_]
    by_cases hbig : 16777216 < bn
    · have hbi : (16777216 : Int) < (bn : Int) := by omega
      refine hr_ 2 (.bool true) rfl y0 (fun W hW => ?_) ?_
      · (clear hW; go_simp)
      try simp only [Act.put, sA_, s0_, sS_]
      refine hr_ 3 (.bool true) rfl y0 (fun W hW => ?_) ?_
      · (clear hW; go_simp)
      try simp only [Act.put, sA_, s0_, sS_]
      refine hs_ 4 rfl y0 ?_
      try simp only [Act.put, sA_, s0_, sS_]
      refine hs_ 5 rfl y0 ?_
      try simp only [Act.put, sA_, s0_, sS_]
      refine hs_ 6 rfl y0 ?_
      try simp only [Act.put, sA_, s0_, sS_]
      refine hs_ 7 rfl y0 ?_
      try simp only [Act.put, sA_, s0_, sS_]
      refine hs_ 8 rfl y0 ?_
      try simp only [Act.put, sA_, s0_, sS_]
      refine hs_ 9 rfl y0 ?_
      try simp only [Act.put, sA_, s0_, sS_]
      refine hs_ 10 rfl y0 ?_
      try simp only [Act.put, sA_, s0_, sS_]
      refine hs_ 11 rfl y0 ?_
      try simp only [Act.put, sA_, s0_, sS_]
      refine hs_ 12 rfl y0 ?_
      try simp only [Act.put, sA_, s0_, sS_]
      refine hs_ 13 rfl y0 ?_
      try simp only [Act.put, sA_, s0_, sS_]
      refine hr_ 14 (.bool true) rfl y0 (fun W hW => ?_) ?_
      · (clear hW; go_simp)
      try simp only [Act.put, sA_, s0_, sS_]
      refine wpAnyH_done (by kernel_rfl) ?_ _
      go_wp2
      go_ret
      have hre := HRX.out
      rw [if_pos (show (b.length : Int) > room - (used : Int) by have := HBN.out; omega)] at hre
      rw [hre]
      exact RPost.same H.out y0 7
    have hbi : ¬ (16777216 : Int) < (bn : Int) := by omega
    refine hr_ 2 (.bool false) rfl y0 (fun W hW => ?_) ?_
    · (clear hW; go_simp)
    try simp only [Act.put, sA_, s0_, sS_]
    refine hr_ 3 (.bool false) rfl y0 (fun W hW => ?_) ?_
    · (clear hW; go_simp)
    try simp only [Act.put, sA_, s0_, sS_]
    refine hr_ 4 (.pointer (some ⟨g, 0, none⟩)) rfl y0 (fun W hW => ?_) ?_
    · (clear hW; go_simp)
    try simp only [Act.put, sA_, s0_, sS_]
    refine hr_ 6 (.slice ba bn bc) rfl y0 (fun W hW => ?_) ?_
    · (clear hW; go_simp)
    try simp only [Act.put, sA_, s0_, sS_]
    refine hr_ 7 (.int .i64 (bn : Int)) rfl y0 (fun W hW => ?_) ?_
    · (clear hW; go_simp)
    try simp only [Act.put, sA_, s0_, sS_]
    refine hr_ 9 (.pointer (some ⟨g, 0, none⟩)) rfl y0 (fun W hW => ?_) ?_
    · (clear hW; go_simp)
    try simp only [Act.put, sA_, s0_, sS_]
    refine hr_ 10 (.pointer (some ⟨g, 0, none⟩)) rfl y0 (fun W hW => ?_) ?_
    · (clear hW; go_simp)
    try simp only [Act.put, sA_, s0_, sS_]
    refine hr_ 11 (.pointer (some ⟨g, 0, none⟩)) rfl y0 (fun W hW => ?_) ?_
    · (clear hW; go_simp)
    try simp only [Act.put, sA_, s0_, sS_]
    refine hr_ 12 (.int .i64 room) rfl y0 (fun W hW => ?_) ?_
    · (have c0 := HC0.out W hW; clear hW; go_simp)
    try simp only [Act.put, sA_, s0_, sS_]
    refine hc_ 5 rfl (fun K hK => ?_)
    go_simp
    go_at_call 69
    refine Calls.mono (HUS.out _ y0) ?_
    rintro e w5 ⟨he, hx5⟩
    rw [if_neg (by rw [HOFF.out]; simp)] at he
    subst he
    have y1 := y0.trans' hx5
    clear hx5
    go_wp2_with fail
    refine hK.out _ _ y1 (fun hH => ?_)
    clear hK K y0 hH
    have y0 := y1
    clear y1
    try simp only [Act.put, sA_, s0_, sS_]
    obtain ⟨sm, hsm⟩ : ∃ sm : Nat, sm = used + bn := ⟨_, rfl⟩
    have hse : (used : Int) + (bn : Int) = (sm : Int) := by omega
    have hsw : IntKind.i64.wrap (sm : Int) = (sm : Int) := IntWalk.i64_in _ ⟨by omega, by omega⟩
    have HSM := hid hsm
    clear hsm
    refine hr_ 8 (.int .i64 (sm : Int)) rfl y0 (fun W hW => ?_) ?_
    · (clear hW; go_simp)
    try simp only [Act.put, sA_, s0_, sS_]
    clear hse hsw
    by_cases hful : room < (sm : Int)
    · skip
      refine hr_ 13 (.bool true) rfl y0 (fun W hW => ?_) ?_
      · (clear hW; go_simp)
      try simp only [Act.put, sA_, s0_, sS_]
      refine hr_ 14 (.bool true) rfl y0 (fun W hW => ?_) ?_
      · (clear hW; go_simp)
      try simp only [Act.put, sA_, s0_, sS_]
      refine wpAnyH_done (by kernel_rfl) ?_ _
      go_wp2
      go_ret
      have hre := HRX.out
      rw [if_pos (show (b.length : Int) > room - (used : Int) by have := HBN.out; have := HSM.out; omega)] at hre
      rw [hre]
      exact RPost.same H.out y0 7
    skip
    refine hr_ 13 (.bool false) rfl y0 (fun W hW => ?_) ?_
    · (clear hW; go_simp)
    try simp only [Act.put, sA_, s0_, sS_]
    refine hr_ 14 (.bool false) rfl y0 (fun W hW => ?_) ?_
    · (clear hW; go_simp)
    try simp only [Act.put, sA_, s0_, sS_]
    refine wpAnyH_done (by kernel_rfl) ?_ _
    have hre := HRX.out
    have hnf : ¬ (b.length : Int) > room - (used : Int) := by have := HBN.out; have := HSM.out; omega
    rw [if_neg hnf] at hre
    have HRE := hid hre
    have HNF := hid (show (b.length : Int) ≤ room - (used : Int) by omega)
    have HY := hid y0
    have HO := hid (ownB_made w5 w.heap.size y0.size)
    have HX6 := hid (y0.trans' (ext_alloc w5 (.cells #[] 5)))
    have HBW := hid (HB.out.below (y0.trans' (ext_alloc w5 (.cells #[] 5))))
    have hbn24 : bn ≤ 16777216 := by omega
    clear hre hnf hful hbig y0
    go_wp2_with (at_builtin; refine wpList_appB rfl (.tmp 61) (.tmp 62) rfl w.heap.size _ 0 [] rfl HO.out ba bn bc b rfl HBW.out (by omega) HX6.out.size ?_; intro g7 c7 w7 hown7 hx7; have HO7 := hid (OwnB.zero hown7); have HX7 := hid (show Ext w w7 from HX6.out.trans hx7); clear hown7 hx7)
    have had := HADD.out w7 HX7.out _ _ _ (HO7.out.by_ (by omega)) HOFF.out 0 ⟨(mayS_len HFD.out.2.1).2, Nat.zero_le _, fun _ => HLN.out⟩ HNF.out
    rw [← HRE.out] at had
    unfold RH.val at had
    dsimp only at had

    have HAD := hid had
    clear had
    refine Calls.mono HAD.out ?_
    rintro e w8 hp
    have HP := hid hp
    obtain ⟨rfl, -, -⟩ := hp
    clear HAD
    go_wp2
    go_ret
    exact HP.out
  have hre0 := HR.out
  rw [if_neg hA] at hre0
  have HRE0 := hid hre0
  have HA := hid hA
  have hguard : ((z == 21) = false) ∨ ((z == 21) = true ∧ (k == 0) = false) := by
    by_cases h1 : z = 21
    · exact .inr ⟨by simpa using h1, by simpa using fun h2 => hA ⟨h1, h2⟩⟩
    exact .inl (by simpa using h1)
  clear hre0 HR hA
  by_cases h0 : z = 0
  · have hre := HRE0.out
    rw [if_neg (by rw [h0]; simp)] at hre
    have HRE := hid hre
    have hfd := HF0.out h0
    have HFD := hid hfd
    subst h0
    clear hre HRE0 HF0 HF21 hfd hguard
    go_enter Tryz.func28, Tryz.ntmps28
    go_wp2_with fail
    refine Calls.mono HWH.out ?_
    rintro e w1 ⟨rfl, hx1⟩
    have HX1 := hid hx1
    clear hx1
    go_wp2_with fail
    refine Calls.mono (HFI.out w1 HX1.out) ?_
    rintro e w3 ⟨a3, n3, c3, rfl, hf, hx3⟩
    have HX3 := hid (HX1.out.trans' hx3)
    have HG := hid (Rget_any hf nm)
    clear hf hx3
    go_wp2_with fail
    refine Calls.mono HG.out ?_
    rintro e w4 hp
    obtain ⟨oa, on, oc, f, rfl, hby, hx4⟩ := hp.old
    have w4X := HX3.out.trans' hx4
    have hon : on = (tOld s.seen nm).length := hby.1
    have hon47 : on ≤ 140737488351232 := hby.2.2.1.2
    have HON := hid hon
    clear hp hby hx4 HG hon
    by_cases hkb : k < 0 ∨ (on : Int) < k
    · have hre := HRE.out
      rw [if_pos (by rcases hkb with h | h; exact .inl h; exact .inr (by rw [← HON.out]; exact h))] at hre
      have HRF := hid hre
      clear hre
      by_cases hk0 : k < 0
      · clear hkb
        go_wp2
        go_ret
        rw [HRF.out]
        exact RPost.same H.out w4X 1
      have hk1 : (on : Int) < k := hkb.resolve_left hk0
      clear hkb
      go_wp2
      go_ret
      rw [HRF.out]
      exact RPost.same H.out w4X 1
    have hk0 : ¬ k < 0 := fun h => hkb (.inl h)
    have hk1 : ¬ (on : Int) < k := fun h => hkb (.inr h)
    have hre := HRE.out
    rw [if_neg (by rintro (h | h); exact hk0 h; exact hk1 (by rw [HON.out]; exact h))] at hre
    obtain ⟨kn, hkn⟩ : ∃ kn : Nat, k = (kn : Int) := ⟨k.toNat, by omega⟩
    subst hkn
    rw [Int.toNat_natCast] at hre
    have HRX := hid hre
    have HKN := hid (show kn ≤ (tOld s.seen nm).length by have := HON.out; omega)
    clear hre hkb HRE
    go_wp2
    have HOFF := hid HFD.out.1
    have y0 : Ext w w4.drew := w4X.trans' (ext_drew w4)
    refine wp_region_held_drew (S := fun W => Ext w W) (by kernel_rfl) y0 (fun hH => ?_)
    clear hH
    refine hr_ 0 (.slice ba bn bc) rfl y0 (fun W hW => ?_) ?_
    · (clear hW; go_simp)
    try simp only [Act.put, sA_, s0_, sS_]
    refine hr_ 1 (.int .i64 (bn : Int)) rfl y0 (fun W hW => ?_) ?_
    · (clear hW; go_simp)
    try simp only [Act.put, sA_, s0_, sS_]
    by_cases hbig : 16777216 < bn
    · have hbi : (16777216 : Int) < (bn : Int) := by omega
      refine hr_ 2 (.bool true) rfl y0 (fun W hW => ?_) ?_
      · (clear hW; go_simp)
      try simp only [Act.put, sA_, s0_, sS_]
      refine hr_ 3 (.bool true) rfl y0 (fun W hW => ?_) ?_
      · (clear hW; go_simp)
      try simp only [Act.put, sA_, s0_, sS_]
      refine hs_ 4 rfl y0 ?_
      try simp only [Act.put, sA_, s0_, sS_]
      refine hs_ 5 rfl y0 ?_
      try simp only [Act.put, sA_, s0_, sS_]
      refine hs_ 6 rfl y0 ?_
      try simp only [Act.put, sA_, s0_, sS_]
      refine hs_ 7 rfl y0 ?_
      try simp only [Act.put, sA_, s0_, sS_]
      refine hs_ 8 rfl y0 ?_
      try simp only [Act.put, sA_, s0_, sS_]
      refine hs_ 9 rfl y0 ?_
      try simp only [Act.put, sA_, s0_, sS_]
      refine hs_ 10 rfl y0 ?_
      try simp only [Act.put, sA_, s0_, sS_]
      refine hs_ 11 rfl y0 ?_
      try simp only [Act.put, sA_, s0_, sS_]
      refine hs_ 12 rfl y0 ?_
      try simp only [Act.put, sA_, s0_, sS_]
      refine hs_ 13 rfl y0 ?_
      try simp only [Act.put, sA_, s0_, sS_]
      refine hr_ 14 (.bool true) rfl y0 (fun W hW => ?_) ?_
      · (clear hW; go_simp)
      try simp only [Act.put, sA_, s0_, sS_]
      refine wpAnyH_done (by kernel_rfl) ?_ _
      go_wp2
      go_ret
      have hre := HRX.out
      rw [if_pos (show (b.length : Int) > room - (used : Int) by have := HBN.out; omega)] at hre
      rw [hre]
      exact RPost.same H.out y0 7
    have hbi : ¬ (16777216 : Int) < (bn : Int) := by omega
    refine hr_ 2 (.bool false) rfl y0 (fun W hW => ?_) ?_
    · (clear hW; go_simp)
    try simp only [Act.put, sA_, s0_, sS_]
    refine hr_ 3 (.bool false) rfl y0 (fun W hW => ?_) ?_
    · (clear hW; go_simp)
    try simp only [Act.put, sA_, s0_, sS_]
    refine hr_ 4 (.pointer (some ⟨g, 0, none⟩)) rfl y0 (fun W hW => ?_) ?_
    · (clear hW; go_simp)
    try simp only [Act.put, sA_, s0_, sS_]
    refine hr_ 6 (.slice ba bn bc) rfl y0 (fun W hW => ?_) ?_
    · (clear hW; go_simp)
    try simp only [Act.put, sA_, s0_, sS_]
    refine hr_ 7 (.int .i64 (bn : Int)) rfl y0 (fun W hW => ?_) ?_
    · (clear hW; go_simp)
    try simp only [Act.put, sA_, s0_, sS_]
    refine hr_ 9 (.pointer (some ⟨g, 0, none⟩)) rfl y0 (fun W hW => ?_) ?_
    · (clear hW; go_simp)
    try simp only [Act.put, sA_, s0_, sS_]
    refine hr_ 10 (.pointer (some ⟨g, 0, none⟩)) rfl y0 (fun W hW => ?_) ?_
    · (clear hW; go_simp)
    try simp only [Act.put, sA_, s0_, sS_]
    refine hr_ 11 (.pointer (some ⟨g, 0, none⟩)) rfl y0 (fun W hW => ?_) ?_
    · (clear hW; go_simp)
    try simp only [Act.put, sA_, s0_, sS_]
    refine hr_ 12 (.int .i64 room) rfl y0 (fun W hW => ?_) ?_
    · (have c0 := HC0.out W hW; clear hW; go_simp)
    try simp only [Act.put, sA_, s0_, sS_]
    refine hc_ 5 rfl (fun K hK => ?_)
    go_simp
    go_at_call 69
    refine Calls.mono (HUS.out _ y0) ?_
    rintro e w5 ⟨he, hx5⟩
    rw [if_neg (by rw [HOFF.out]; simp)] at he
    subst he
    have y1 := y0.trans' hx5
    clear hx5
    go_wp2_with fail
    refine hK.out _ _ y1 (fun hH => ?_)
    clear hK K y0 hH
    have y0 := y1
    clear y1
    try simp only [Act.put, sA_, s0_, sS_]
    obtain ⟨sm, hsm⟩ : ∃ sm : Nat, sm = used + bn := ⟨_, rfl⟩
    have hse : (used : Int) + (bn : Int) = (sm : Int) := by omega
    have hsw : IntKind.i64.wrap (sm : Int) = (sm : Int) := IntWalk.i64_in _ ⟨by omega, by omega⟩
    have HSM := hid hsm
    clear hsm
    refine hr_ 8 (.int .i64 (sm : Int)) rfl y0 (fun W hW => ?_) ?_
    · (clear hW; go_simp)
    try simp only [Act.put, sA_, s0_, sS_]
    clear hse hsw
    by_cases hful : room < (sm : Int)
    · skip
      refine hr_ 13 (.bool true) rfl y0 (fun W hW => ?_) ?_
      · (clear hW; go_simp)
      try simp only [Act.put, sA_, s0_, sS_]
      refine hr_ 14 (.bool true) rfl y0 (fun W hW => ?_) ?_
      · (clear hW; go_simp)
      try simp only [Act.put, sA_, s0_, sS_]
      refine wpAnyH_done (by kernel_rfl) ?_ _
      go_wp2
      go_ret
      have hre := HRX.out
      rw [if_pos (show (b.length : Int) > room - (used : Int) by have := HBN.out; have := HSM.out; omega)] at hre
      rw [hre]
      exact RPost.same H.out y0 7
    skip
    refine hr_ 13 (.bool false) rfl y0 (fun W hW => ?_) ?_
    · (clear hW; go_simp)
    try simp only [Act.put, sA_, s0_, sS_]
    refine hr_ 14 (.bool false) rfl y0 (fun W hW => ?_) ?_
    · (clear hW; go_simp)
    try simp only [Act.put, sA_, s0_, sS_]
    refine wpAnyH_done (by kernel_rfl) ?_ _
    have hre := HRX.out
    have hnf : ¬ (b.length : Int) > room - (used : Int) := by have := HBN.out; have := HSM.out; omega
    rw [if_neg hnf] at hre
    have HRE := hid hre
    have HNF := hid (show (b.length : Int) ≤ room - (used : Int) by omega)
    have HY := hid y0
    have HO := hid (ownB_made w5 w.heap.size y0.size)
    have HX6 := hid (y0.trans' (ext_alloc w5 (.cells #[] 5)))
    have HBW := hid (HB.out.below (y0.trans' (ext_alloc w5 (.cells #[] 5))))
    have hbn24 : bn ≤ 16777216 := by omega
    clear hre hnf hful hbig y0
    go_wp2_with (at_builtin; refine wpList_appB rfl (.tmp 61) (.tmp 62) rfl w.heap.size _ 0 [] rfl HO.out ba bn bc b rfl HBW.out (by omega) HX6.out.size ?_; intro g7 c7 w7 hown7 hx7; have HO7 := hid (OwnB.zero hown7); have HX7 := hid (show Ext w w7 from HX6.out.trans hx7); clear hown7 hx7)
    have had := HADD.out w7 HX7.out _ _ _ (HO7.out.by_ (by omega)) HOFF.out kn ⟨(mayS_len HFD.out.2.1).2, HKN.out, fun e => by obtain ⟨b2, h2⟩ := HFD.out.2.2; rw [h2] at e; cases e⟩ HNF.out
    rw [← HRE.out] at had
    unfold RH.val at had
    dsimp only at had

    have HAD := hid had
    clear had
    refine Calls.mono HAD.out ?_
    rintro e w8 hp
    have HP := hid hp
    obtain ⟨rfl, -, -⟩ := hp
    clear HAD
    go_wp2
    go_ret
    exact HP.out
  have hre := HRE0.out
  rw [if_pos h0] at hre
  have HRE := hid hre
  have hzb : (z != 0) = true := by simpa using h0
  clear hre HRE0 h0 HF0 HF21
  rcases hguard with hg1 | ⟨hg1, hg2⟩
  all_goals
    go_enter Tryz.func28, Tryz.ntmps28
    go_wp2_with fail
    refine Calls.mono HWH.out ?_
    rintro e w1 ⟨rfl, hx1⟩
    have HX1 := hid hx1
    clear hx1
    go_wp2
    go_ret
    rw [HRE.out]
    exact RPost.same H.out HX1.out z
end Go.Proofs.YtjapeaoebjmpnaaGreatDoor
