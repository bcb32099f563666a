/- A disk's calls, as they are used by a vault; the walk of lay. -/
import Derived.Test.YtjapeaoebjmpnaaGreatDoorB13
namespace Go.Proofs.YtjapeaoebjmpnaaGreatDoor
open Go.RowKit Go.Maps
set_option linter.unusedVariables false
set_option linter.unusedSimpArgs false
attribute [local go_sem] bmax2 bmin2 bmax_two bmin_two

theorem Write_at {D G : Nat → Prop} {w : World} {g : Nat} {s : DS} (h : DiskAt D w g s) (hok : s.Ok) (hc : s.acts.length < 1000000000000) (n : Nm) (hn : n.length ≤ maxLen) (k : Int) (hk : In64 k) {a : Option Addr} {bn bc : Nat} {b : By} (hb : ByF G w a bn bc b) :
    Calls Tryz.prog 27 #[.pointer (some ⟨g, 0, none⟩), .string ⟨n.toArray⟩, .int .i64 k, .slice a bn bc] w (DoPost D g (s.write n k b) w) := by
  obtain ⟨ms, ml, av, H, h⟩ := h
  exact Write_in h hok hc n hn k hk hb
theorem Drop_at {D : Nat → Prop} {w : World} {g : Nat} {s : DS} (h : DiskAt D w g s) (hok : s.Ok) (hc : s.acts.length < 1000000000000) (n : Nm) (hn : n.length ≤ maxLen) :
    Calls Tryz.prog 47 #[.pointer (some ⟨g, 0, none⟩), .string ⟨n.toArray⟩] w (DoPost D g (s.drop n) w) := by
  obtain ⟨ms, ml, av, H, h⟩ := h
  exact Drop_in h hok hc n hn
theorem Move_at {D : Nat → Prop} {w : World} {g : Nat} {s : DS} (h : DiskAt D w g s) (hok : s.Ok) (hc : s.acts.length < 1000000000000) (o n : Nm) (ho : o.length ≤ maxLen) :
    Calls Tryz.prog 50 #[.pointer (some ⟨g, 0, none⟩), .string ⟨o.toArray⟩, .string ⟨n.toArray⟩] w (DoPost D g (s.move o n) w) := by
  obtain ⟨ms, ml, av, H, h⟩ := h
  exact Move_in h hok hc o n ho
theorem Sync_at {D : Nat → Prop} {w : World} {g : Nat} {s : DS} (h : DiskAt D w g s) (hok : s.Ok) (hc : s.acts.length < 1000000000000) :
    Calls Tryz.prog 20 #[.pointer (some ⟨g, 0, none⟩)] w (DoPost D g s.sync w) := by
  obtain ⟨ms, ml, av, H, h⟩ := h
  exact Sync_in h hok hc
theorem Read_at {D : Nat → Prop} {w : World} {g : Nat} {s : DS} (h : DiskAt D w g s) (n : Nm) (hn : n.length ≤ maxLen) :
    Calls Tryz.prog 60 #[.pointer (some ⟨g, 0, none⟩), .string ⟨n.toArray⟩] w (ReadPost s n w) := by
  obtain ⟨ms, ml, av, H, h⟩ := h
  exact Read_in h n hn
theorem List_at {D : Nat → Prop} {w : World} {g : Nat} {s : DS} (h : DiskAt D w g s) (hok : s.Ok) :
    Calls Tryz.prog 58 #[.pointer (some ⟨g, 0, none⟩)] w (ListPost s w) := by
  obtain ⟨ms, ml, av, H, h⟩ := h
  exact List_in h hok
theorem Clone_at {D : Nat → Prop} {w : World} {g : Nat} {s : DS} (h : DiskAt D w g s) (hok : s.Ok) (hc : s.acts.length < 1000000000000) :
    Calls Tryz.prog 57 #[.pointer (some ⟨g, 0, none⟩)] w fun e w' => (∃ p, e = .returned (.pointer (some p))) ∧ Ext w w' := by
  obtain ⟨ms, ml, av, H, h⟩ := h
  exact Clone_in h hok hc
/-- One call behind another. -/
theorem DoPost.next {D : Nat → Prop} {w w1 w2 w3 : World} {g : Nat} {s : DS} {r : Int × DS} {e : Ending} (h1 : DiskAt (grow D w w1) w1 g s) (hf1 : Frm D w w1) (hx : Ext w1 w2) (h : DoPost (grow D w w1) g r w2 e w3) : DoPost D g r w e w3 := by
  obtain ⟨p1, p2, p3⟩ := h
  have z1 := hf1.size
  have z2 := hx.size
  have z3 := p3.size
  have hl := h1.lt
  refine ⟨p1, p2.more (grow.trans2 (by omega) (by omega)) fun q hq => ?_, ?_⟩
  · rcases hq with hq | hq
    · have h3 := hl q (.inl hq); omega
    exact hq.2
  exact (hf1.then_ext hx).trans p3 fun q hq => by
    rcases hq with hq | hq
    · exact .inl hq
    exact .inr hq.1
theorem lay_end {D : Nat → Prop} {w w1 w2 : World} {g : Nat} {r : Int × DS} {e : Ending} (hx : Ext w w1) (h : DoPost D g r w1 e w2) : DoPost D g r w e w2 := by
  obtain ⟨p1, p2, p3⟩ := h
  have z1 := hx.size
  have hl := p2.lt
  refine ⟨p1, p2.more (fun q hq => ?_) fun q hq => ?_, Frm.after_ext hx p3⟩
  · rcases hq with hq | hq
    · exact .inl hq
    exact .inr ⟨by omega, hq.2⟩
  rcases hq with hq | hq
  · exact hl q (.inl hq)
  exact hq.2
/-! ### how many acts there are -/
theorem DS.hit_acts (s : DS) : s.hit.2.acts = s.acts := by unfold DS.hit; split <;> rfl
theorem DS.fall_acts (s : DS) (k t : Int) : (s.fall k t).acts = [] := rfl
theorem DS.does_acts (s : DS) (a : ActS) : (s.does a).2.acts.length ≤ s.acts.length + 1 := by
  unfold DS.does
  dsimp only
  split
  · rw [DS.fall_acts]; simp
  rw [DS.hit_acts]; simp
theorem DS.write_acts (s : DS) (n : Nm) (k : Int) (b : By) : (s.write n k b).2.acts.length ≤ s.acts.length + 1 := by
  unfold DS.write
  have h1 := fun a => DS.does_acts s a
  repeat' split
  all_goals first
    | exact h1 _
    | (dsimp only; omega)
theorem DS.move_acts (s : DS) (n m : Nm) : (s.move n m).2.acts.length ≤ s.acts.length + 1 := by
  unfold DS.move
  have h1 := fun a => DS.does_acts s a
  repeat' split
  all_goals first
    | exact h1 _
    | (dsimp only; omega)
theorem DS.drop_acts (s : DS) (n : Nm) : (s.drop n).2.acts.length ≤ s.acts.length + 1 := by
  unfold DS.drop
  have h1 := fun a => DS.does_acts s a
  split
  all_goals first
    | exact h1 _
    | (dsimp only; omega)
theorem DS.sync_acts (s : DS) : s.sync.2.acts.length ≤ s.acts.length := by
  unfold DS.sync
  split
  · exact Nat.le_refl _
  split
  · rw [DS.fall_acts]; simp
  simp

theorem layS_cons (k : Nat) (b : By) (r : List By) (d : DS) : layS k (b :: r) d = if (d.write freshS (k : Int) b).1 ≠ 0 then d.write freshS (k : Int) b else layS (k + b.length) r (d.write freshS (k : Int) b).2 := rfl

set_option maxRecDepth 100000 in
set_option maxHeartbeats 4000000 in
theorem lay_any {D F : Nat → Prop} {w : World} {g dg : Nat} {d : DS} {v : Value} {s : Sn} (hd : DiskAt D w dg d) (hok : d.Ok) (hc : d.acts.length ≤ 100000000000) (hg : ¬ D g) (h5 : w.cell? ⟨g, 5, none⟩ = some (.pointer (some ⟨dg, 0, none⟩)))
    (hs : SnV F w v s) (hck : checkS s = 0) :
    Calls Tryz.prog 46 #[.pointer (some ⟨g, 0, none⟩), v] w (DoPost D dg (layS 0 (partsB s) d) w) := by
  obtain ⟨va, vn, vc, da, dn, dc, hv, k1, k2, k3, k4⟩ := hs
  have hgl := World.block_lt_of_cell? w _ h5
  obtain ⟨x0, x1, x2, x3, hv4⟩ : ∃ x0 x1 x2 x3, v = .agg #[x0, x1, x2, x3] := ⟨_, _, _, _, hv⟩
  subst hv4
  have hsn : SnV F w (.agg #[x0, x1, x2, x3]) s := ⟨va, vn, vc, da, dn, dc, hv, k1, k2, k3, k4⟩
  obtain ⟨-, -, -, q7, -, q26⟩ := checkS_ok hck
  have HP := hid (fun W (hW : Ext w W) => parts_any (hsn.below hW) q7 q26)
  obtain ⟨l1, l2⟩ := partsB_len hck
  obtain ⟨L, hL⟩ : ∃ L, L = partsB s := ⟨_, rfl⟩
  rw [← hL] at HP l1 l2 ⊢
  have HD := hid hd
  have HOK := hid hok
  have HG := hid hg
  have H5 := hid h5
  clear hv k1 k2 k3 k4 hsn hd hok hg h5 q7 q26 hL hck
  go_enter Tryz.func46, Tryz.ntmps46
  go_wp2_with fail
  have hx0 := ext_alloc w (.cells #[x0, x1, x2, x3] 25)
  refine Calls.mono (HP.out _ hx0) ?_
  rintro e w1 ⟨pa, pn, pc, rfl, -, hx1, hbs⟩
  have hx01 := hx0.trans' hx1
  have hpn : pn = L.length := hbs.1
  have hzw : w.heap.size ≤ w1.heap.size := hx01.size
  have HBS := hid (hbs.keep (w' := w1) (G := fun q => w.heap.size ≤ q ∧ q < w1.heap.size) fun q hq hl => ⟨⟨by have h1 := hx0.size; omega, hl⟩, rfl⟩)
  have HX1 := hid hx01
  have H51 := hid ((hx01.cell (p := ⟨g, 5, none⟩) hgl).trans H5.out)
  have HD1 := hid (HD.out.below hx01)
  have HDL := hid HD.out.lt
  have HLL := hid hpn
  have hpn9 : pn ≤ 513 := by omega
  clear hbs hx1 hx01 hx0 HP hzw hpn
  go_wp2
  go_loopw [5, 7, 8, 12] (fun x _ _ z wr => ∃ (k m : Nat) (dk : DS), k ≤ pn ∧ z = .int .i64 (k : Int) ∧ x = .int .i64 (m : Int) ∧ Hid (m = (L.take k).flatten.length) ∧ m ≤ 1000000 ∧ Hid (DiskAt (grow D w1 wr) wr dg dk) ∧ Hid (Frm D w1 wr) ∧ Hid (dk.Ok) ∧ Hid (dk.acts.length ≤ d.acts.length + k) ∧
      Hid (layS 0 L d = layS m (L.drop k) dk) ∧ wr.cell? ⟨g, 5, none⟩ = some (.pointer (some ⟨dg, 0, none⟩))) (fun _ _ _ z _ => pn - (intOf z).toNat)
  case atStart => exact ⟨0, 0, d, Nat.zero_le _, rfl, rfl, rfl, by omega, HD1.out.more (fun q hq => .inl hq) (grow.lt HD1.out.lt (Nat.le_refl _)), Frm.refl _ _, HOK.out, Nat.le_refl _, rfl, H51.out⟩
  obtain ⟨k, m, dk, hk, rfl, rfl, HM, hm, HDk, HFk, HOk, HAk, HLk, hc5⟩ := hrel
  by_cases hlt : k < pn
  · have hbw := HBS.out.keep (w' := wr) (G := fun _ => True) fun q hq hl => ⟨trivial, HFk.out.block q hl fun hD => by have := HDL.out q hD; omega⟩
    obtain ⟨rb, ro, e, hrl, hl0, a0, n0, c0, hc0, hb0⟩ := hbw.at_ (k := k) hlt
    subst e
    have het : L.take (k + 1) = L.take k ++ [L[k]] := List.take_succ_eq_append_getElem hl0
    have hdr : L.drop k = L[k] :: L.drop (k + 1) := List.drop_eq_getElem_cons hl0
    obtain ⟨lk, hlk⟩ : ∃ lk, lk = L[k] := ⟨_, rfl⟩
    rw [← hlk] at het hdr hb0
    clear hlk
    have hft : (L.take (k + 1)).flatten.length = m + lk.length := by
      rw [het, List.flatten_append, List.length_append, ← HM.out]
      simp only [List.flatten_cons, List.flatten_nil, List.append_nil]
    have hm2 : m + lk.length ≤ 1000000 := by
      have h1 : (L.take (k + 1)).flatten.length ≤ L.flatten.length := by
        have h2 := congrArg (fun l => l.flatten.length) (List.take_append_drop (k + 1) L)
        simp only [List.flatten_append, List.length_append] at h2
        omega
      omega
    have hn0 : n0 = lk.length := hb0.1
    have hW := Write_at HDk.out HOk.out (by have := HAk.out; omega) freshS (by decide) (m : Int) ⟨by omega, by omega⟩ hb0
    have hLk := HLk.out
    rw [hdr, layS_cons] at hLk
    have hok2 := HOk.out.write freshS (m : Int) lk
    have hac2 := DS.write_acts dk freshS (m : Int) lk
    have HM2 := hid (show m + lk.length = (L.take (k + 1)).flatten.length from hft.symm)
    obtain ⟨r, hr⟩ : ∃ r, r = dk.write freshS (m : Int) lk := ⟨_, rfl⟩
    rw [← hr] at hW hLk hok2 hac2
    rw [← hn0] at hLk hm2 HM2
    obtain ⟨r1, r2⟩ := r
    dsimp only at hLk hok2 hac2
    have HW := hid hW
    have HLK := hid hLk
    have HOK2 := hid hok2
    have HAC2 := hid (show r2.acts.length ≤ d.acts.length + (k + 1) by have := HAk.out; omega)
    have hgr : g < wr.heap.size := World.block_lt_of_cell? wr _ hc5
    have HGN := hid (show ¬ grow D w1 wr g from fun h => by
      rcases h with h | h
      · exact HG.out h
      have := HX1.out.size; omega)
    clear hbw hb0 hW hdr hLk hok2 hac2 hr hl0 hrl hft het hn0
    go_wp2_with fail
    refine Calls.mono HW.out ?_
    rintro e w2 ⟨rfl, hd2, hf2⟩
    have hc52 := (hf2.cell (p := ⟨g, 5, none⟩) hgr HGN.out).trans hc5
    have HN := hid (DoPost.next (D := D) (w := w1) (r := (r1, r2)) HDk.out HFk.out (Below.refl _ _) ⟨rfl, hd2, hf2⟩)
    clear hd2 hf2
    by_cases hr1 : r1 = 0
    · subst hr1
      have HL2 := hid (HLK.out.trans (if_neg (by simp)))
      go_wp2
      go_roundw
      case rel => exact ⟨k + 1, m + n0, r2, by omega, by go_num, by go_num, HM2.out, hm2, HN.out.2.1, HN.out.2.2, HOK2.out, HAC2.out, HL2.out, hc52⟩
      case measure => simp [intOf]; omega
    have hb1 : (r1 != 0) = true := by simpa using hr1
    have HL2 := hid (HLK.out.trans (if_pos hr1))
    clear hr1
    go_wp2
    go_ret
    rw [HL2.out]
    exact lay_end HX1.out HN.out
  have hkn : k = pn := by omega
  have HL2 := hid (show layS 0 L d = (0, dk) by
    rw [HLk.out, hkn, List.drop_of_length_le (by have := HLL.out; omega)]; rfl)
  clear HLk
  go_wp2
  go_ret
  rw [HL2.out]
  exact lay_end HX1.out ⟨rfl, HDk.out, HFk.out⟩
end Go.Proofs.YtjapeaoebjmpnaaGreatDoor

/- The walks of Save's function value and of each. Printed by gen_vs6.py. -/
namespace Go.Proofs.YtjapeaoebjmpnaaGreatDoor
open Go.RowKit Go.Maps
set_option linter.unusedVariables false
set_option linter.unusedSimpArgs false
attribute [local go_sem] bmax2 bmin2 bmax_two bmin_two

set_option maxHeartbeats 4000000 in
theorem Save1_any {D : Nat → Prop} {w : World} {g dg p2 p3 : Nat} {d : DS} {i : Int} (hd : DiskAt D w dg d) (hok : d.Ok) (hc : d.acts.length ≤ 100000000000) (h2 : w.cell? ⟨p2, 0, none⟩ = some (.pointer (some ⟨g, 0, none⟩))) (h5 : w.cell? ⟨g, 5, none⟩ = some (.pointer (some ⟨dg, 0, none⟩)))
    (h3 : w.cell? ⟨p3, 0, none⟩ = some (.int .i64 i)) (n2 : ¬ D p2) (ng : ¬ D g) (n3 : ¬ D p3) (hT : TabP w) (hi0 : 0 ≤ i) (hi1 : i ≤ 1099511627776) :
    Calls Tryz.prog 49 #[.pointer (some ⟨p2, 0, none⟩), .pointer (some ⟨p3, 0, none⟩)] w (DoPost D dg (d.move freshS (nameB i)) w) := by
  have l2 := World.block_lt_of_cell? w _ h2
  have l5 := World.block_lt_of_cell? w _ h5
  have l3 := World.block_lt_of_cell? w _ h3
  have HK := hid (fun W (hW : Frm D w W) => (show W.cell? ⟨p2, 0, none⟩ = some (.pointer (some ⟨g, 0, none⟩)) ∧ W.cell? ⟨g, 5, none⟩ = some (.pointer (some ⟨dg, 0, none⟩)) ∧ W.cell? ⟨p3, 0, none⟩ = some (.int .i64 i) from
    ⟨(hW.cell (p := ⟨p2, 0, none⟩) l2 n2).trans h2, (hW.cell (p := ⟨g, 5, none⟩) l5 ng).trans h5, (hW.cell (p := ⟨p3, 0, none⟩) l3 n3).trans h3⟩))
  have HN := hid (fun W (hW : Ext w W) => name_any (hT.ext hW) hi0 hi1)
  have HM := hid (fun W (hW : Ext w W) => Move_at (hd.below hW) hok (by omega) freshS (nameB i) (by decide))
  have HD := hid hd
  obtain ⟨nm, hnm⟩ : ∃ nm, nm = nameB i := ⟨_, rfl⟩
  rw [← hnm] at HN HM ⊢
  clear hd hok hc h2 h5 h3 n2 ng n3 hT hi0 hi1 hnm l2 l5 l3
  go_enter Tryz.func49, Tryz.ntmps49
  go_wp2
  have y0 := HK.out w.drew (Frm.of_ext (ext_drew w) D)
  refine wp_region_held_drew (S := fun W => W.cell? ⟨p2, 0, none⟩ = some (.pointer (some ⟨g, 0, none⟩)) ∧ W.cell? ⟨g, 5, none⟩ = some (.pointer (some ⟨dg, 0, none⟩)) ∧ W.cell? ⟨p3, 0, none⟩ = some (.int .i64 i)) (by kernel_rfl) y0 (fun hH => ?_)
  refine hr_ 0 (.pointer (some ⟨g, 0, none⟩)) rfl y0 (fun W hW => ?_) ?_
  · (obtain ⟨q2, q5, q3⟩ := hW; go_simp)
  try simp only [Act.put, sA_, s0_, sS_]
  refine hr_ 1 (.pointer (some ⟨g, 0, none⟩)) rfl y0 (fun W hW => ?_) ?_
  · (clear hW; go_simp)
  try simp only [Act.put, sA_, s0_, sS_]
  refine hr_ 2 (.pointer (some ⟨g, 5, none⟩)) rfl y0 (fun W hW => ?_) ?_
  · (clear hW; go_simp)
  try simp only [Act.put, sA_, s0_, sS_]
  refine hr_ 3 (.pointer (some ⟨dg, 0, none⟩)) rfl y0 (fun W hW => ?_) ?_
  · (obtain ⟨q2, q5, q3⟩ := hW; go_simp)
  try simp only [Act.put, sA_, s0_, sS_]
  refine hr_ 4 (.pointer (some ⟨p3, 0, none⟩)) rfl y0 (fun W hW => ?_) ?_
  · (clear hW; go_simp)
  try simp only [Act.put, sA_, s0_, sS_]
  refine hr_ 5 (.int .i64 i) rfl y0 (fun W hW => ?_) ?_
  · (obtain ⟨q2, q5, q3⟩ := hW; go_simp)
  try simp only [Act.put, sA_, s0_, sS_]
  refine hc_ 6 rfl (fun K hK => ?_)
  go_simp
  go_at_call 51
  refine Calls.mono (HN.out _ (ext_drew w)) ?_
  rintro e w1 ⟨rfl, hx1⟩
  have HX1 := hid ((ext_drew w).trans' hx1)
  have y1 := HK.out w1 (Frm.of_ext HX1.out D)
  clear hx1
  go_wp2_with fail
  refine hK.out _ _ y1 (fun hH => ?_)
  clear hK K
  try simp only [Act.put, sA_, s0_, sS_]
  refine hc_ 7 rfl (fun K hK => ?_)
  go_simp
  go_at_call 50
  refine Calls.mono (HM.out _ HX1.out) ?_
  rintro e w2 ⟨rfl, hd2, hf2⟩
  have HD2 := hid (lay_end HX1.out (show DoPost D dg (d.move freshS nm) w1 _ w2 from ⟨rfl, hd2, hf2⟩))
  have y2 := HK.out w2 HD2.out.2.2
  clear hd2 hf2
  go_wp2_with fail
  refine hK.out _ _ y2 (fun hH => ?_)
  clear hK K
  try simp only [Act.put, sA_, s0_, sS_]
  refine held_run (i := 8) (v := .int .i64 (d.move freshS nm).1) rfl (by kernel_rfl) (by kernel_rfl) (by kernel_rfl) (fun _ _ _ h => h) (by rfl) y2 (fun W hW => ?_) ?_
  · (clear hW; go_simp)
  try simp only [Act.put, sA_, s0_, sS_]
  refine wpAnyH_done (by kernel_rfl) ?_ _
  go_wp2
  go_ret
  exact HD2.out

/-- What each leaves: it ran to the end, or a call had an error. -/
def EachPost (P : World → Prop) (R : Int → World → Prop) (e : Ending) (w' : World) : Prop := (e = .returned (.int .i64 0) ∧ P w') ∨ ∃ r, r ≠ 0 ∧ e = .returned (.int .i64 r) ∧ R r w'
set_option maxHeartbeats 4000000 in
theorem each_save {w : World} {b dg p2 p3 c : Nat} (P : Nat → World → Prop) (R : Int → World → Prop) (h0 : P 0 w)
    (hrow : ∀ k W, k < 3 → P k W → W.cell? ⟨b, 0, none⟩ = some (.func (.func 20) #[.pointer (some ⟨dg, 0, none⟩)] #[]) ∧ W.cell? ⟨b, 1, none⟩ = some (.func (.func 49) #[] #[.pointer (some ⟨p2, 0, none⟩), .pointer (some ⟨p3, 0, none⟩)]) ∧
      W.cell? ⟨b, 2, none⟩ = some (.func (.func 20) #[.pointer (some ⟨dg, 0, none⟩)] #[]))
    (c0 : ∀ W, P 0 W → Calls Tryz.prog 20 #[.pointer (some ⟨dg, 0, none⟩)] W (EachPost (P 1) R))
    (c1 : ∀ W, P 1 W → Calls Tryz.prog 49 #[.pointer (some ⟨p2, 0, none⟩), .pointer (some ⟨p3, 0, none⟩)] W (EachPost (P 2) R))
    (c2 : ∀ W, P 2 W → Calls Tryz.prog 20 #[.pointer (some ⟨dg, 0, none⟩)] W (EachPost (P 3) R)) :
    Calls Tryz.prog 48 #[.slice (some ⟨b, 0, none⟩) 3 c] w (EachPost (P 3) R) := by
  have HR := hid hrow
  have H0 := hid h0
  have C0 := hid c0
  have C1 := hid c1
  have C2 := hid c2
  clear hrow h0 c0 c1 c2
  go_enter Tryz.func48, Tryz.ntmps48
  go_wp2
  go_loopw [4, 5, 8] (fun _ _ z wr => ∃ k : Nat, k ≤ 3 ∧ z = .int .i64 (k : Int) ∧ Hid (P k wr)) (fun _ _ z _ => 3 - (intOf z).toNat)
  case atStart => exact ⟨0, by omega, rfl, H0.out⟩
  obtain ⟨k, hk, rfl, HP⟩ := hrel
  have hk4 : k = 0 ∨ k = 1 ∨ k = 2 ∨ k = 3 := by omega
  rcases hk4 with hk4 | hk4 | hk4 | hk4
  · subst hk4
    obtain ⟨q0, q1, q2⟩ := HR.out 0 wr (by omega) HP.out
    go_wp2_with fail
    refine Calls.mono (C0.out wr HP.out) ?_
    rintro e w2 (⟨rfl, hp⟩ | ⟨r, hr, rfl, hrr⟩)
    · have HP2 := hid hp
      clear hp
      go_wp2
      go_roundw
      case rel => exact ⟨1, by omega, rfl, HP2.out⟩
      case measure => simp [intOf]
    have hb : (r != 0) = true := by simpa using hr
    have HRR := hid hrr
    have HR0 := hid hr
    clear hrr hr
    go_wp2
    go_ret
    exact .inr ⟨r, HR0.out, rfl, HRR.out⟩
  · subst hk4
    obtain ⟨q0, q1, q2⟩ := HR.out 1 wr (by omega) HP.out
    go_wp2_with fail
    refine Calls.mono (C1.out wr HP.out) ?_
    rintro e w2 (⟨rfl, hp⟩ | ⟨r, hr, rfl, hrr⟩)
    · have HP2 := hid hp
      clear hp
      go_wp2
      go_roundw
      case rel => exact ⟨2, by omega, rfl, HP2.out⟩
      case measure => simp [intOf]
    have hb : (r != 0) = true := by simpa using hr
    have HRR := hid hrr
    have HR0 := hid hr
    clear hrr hr
    go_wp2
    go_ret
    exact .inr ⟨r, HR0.out, rfl, HRR.out⟩
  · subst hk4
    obtain ⟨q0, q1, q2⟩ := HR.out 2 wr (by omega) HP.out
    go_wp2_with fail
    refine Calls.mono (C2.out wr HP.out) ?_
    rintro e w2 (⟨rfl, hp⟩ | ⟨r, hr, rfl, hrr⟩)
    · have HP2 := hid hp
      clear hp
      go_wp2
      go_roundw
      case rel => exact ⟨3, by omega, rfl, HP2.out⟩
      case measure => simp [intOf]
    have hb : (r != 0) = true := by simpa using hr
    have HRR := hid hrr
    have HR0 := hid hr
    clear hrr hr
    go_wp2
    go_ret
    exact .inr ⟨r, HR0.out, rfl, HRR.out⟩
  subst hk4
  go_wp2
  go_ret
  exact .inl ⟨rfl, HP.out⟩
end Go.Proofs.YtjapeaoebjmpnaaGreatDoor

/- Save's three calls; a vault with its disk. -/
namespace Go.Proofs.YtjapeaoebjmpnaaGreatDoor
open Go.RowKit Go.Maps
set_option linter.unusedVariables false
set_option linter.unusedSimpArgs false
attribute [local go_sem] bmax2 bmin2 bmax_two bmin_two

theorem EachPost.of {P : World → Prop} {R : Int → World → Prop} {D : Nat → Prop} {g : Nat} {r : Int × DS} {w w' : World} {e : Ending} (h : DoPost D g r w e w')
    (h0 : r.1 = 0 → DiskAt (grow D w w') w' g r.2 → Frm D w w' → P w') (h1 : r.1 ≠ 0 → DiskAt (grow D w w') w' g r.2 → Frm D w w' → R r.1 w') : EachPost P R e w' := by
  obtain ⟨rfl, p2, p3⟩ := h
  by_cases hr : r.1 = 0
  · exact .inl ⟨by rw [hr], h0 hr p2 p3⟩
  exact .inr ⟨r.1, hr, rfl, h1 hr p2 p3⟩
/-- The state of a disk behind k of Save's three calls. -/
def seqS (d : DS) (n : Nm) : Nat → DS
  | 0 => d
  | 1 => d.sync.2
  | 2 => (d.sync.2.move freshS n).2
  | _ => (d.sync.2.move freshS n).2.sync.2
def okS (d : DS) (n : Nm) : Nat → Prop
  | 0 => True
  | 1 => d.sync.1 = 0
  | 2 => d.sync.1 = 0 ∧ (d.sync.2.move freshS n).1 = 0
  | _ => threeS d n = (0, (d.sync.2.move freshS n).2.sync.2)

theorem each_three {D : Nat → Prop} {w : World} {g dg p2 p3 b c : Nat} {d : DS} {i : Int} (hd : DiskAt D w dg d) (hok : d.Ok) (hc : d.acts.length ≤ 10000000000) (h2 : w.cell? ⟨p2, 0, none⟩ = some (.pointer (some ⟨g, 0, none⟩))) (h5 : w.cell? ⟨g, 5, none⟩ = some (.pointer (some ⟨dg, 0, none⟩)))
    (h3 : w.cell? ⟨p3, 0, none⟩ = some (.int .i64 i)) (n2 : ¬ D p2) (ng : ¬ D g) (n3 : ¬ D p3) (nb : ¬ D b) (hT : TabP w) (hpow : ¬ D powG) (hi0 : 0 ≤ i) (hi1 : i ≤ 1099511627776)
    (b0 : w.cell? ⟨b, 0, none⟩ = some (.func (.func 20) #[.pointer (some ⟨dg, 0, none⟩)] #[])) (b1 : w.cell? ⟨b, 1, none⟩ = some (.func (.func 49) #[] #[.pointer (some ⟨p2, 0, none⟩), .pointer (some ⟨p3, 0, none⟩)]))
    (b2 : w.cell? ⟨b, 2, none⟩ = some (.func (.func 20) #[.pointer (some ⟨dg, 0, none⟩)] #[])) :
    Calls Tryz.prog 48 #[.slice (some ⟨b, 0, none⟩) 3 c] w (DoPost D dg (threeS d (nameB i)) w) := by
  have l2 := World.block_lt_of_cell? w _ h2
  have l5 := World.block_lt_of_cell? w _ h5
  have l3 := World.block_lt_of_cell? w _ h3
  have lb := World.block_lt_of_cell? w _ b0
  have hokS : ∀ k, (seqS d (nameB i) k).Ok := fun k => by
    unfold seqS
    split
    · exact hok
    · exact hok.sync
    · exact hok.sync.move _ _
    exact (hok.sync.move _ _).sync
  have hac : ∀ k, (seqS d (nameB i) k).acts.length ≤ 10000000001 := fun k => by
    have h1 := DS.sync_acts d
    have h2 := DS.move_acts d.sync.2 freshS (nameB i)
    have h3 := DS.sync_acts (d.sync.2.move freshS (nameB i)).2
    unfold seqS
    split <;> omega
  have hgr : ∀ W, w.heap.size ≤ W.heap.size → ∀ q, q < w.heap.size → ¬ D q → ¬ grow D w W q := fun W hW q hq hn h => by
    rcases h with h | h
    · exact hn h
    omega
  refine (each_save (dg := dg) (p2 := p2) (p3 := p3) (fun k W => DiskAt (grow D w W) W dg (seqS d (nameB i) k) ∧ Frm D w W ∧ okS d (nameB i) k) (fun r W => (threeS d (nameB i)).1 = r ∧ DiskAt (grow D w W) W dg (threeS d (nameB i)).2 ∧ Frm D w W)
    ⟨hd.more (fun q hq => .inl hq) (grow.lt hd.lt (Nat.le_refl _)), Frm.refl _ _, trivial⟩ ?_ ?_ ?_ ?_).mono ?_
  · rintro k W - ⟨-, hF, -⟩
    exact ⟨(hF.cell (p := ⟨b, 0, none⟩) lb nb).trans b0, (hF.cell (p := ⟨b, 1, none⟩) lb nb).trans b1, (hF.cell (p := ⟨b, 2, none⟩) lb nb).trans b2⟩
  · rintro W ⟨hD, hF, -⟩
    refine (Sync_at hD (hokS 0) (by have := hac 0; omega)).mono fun e W' h => ?_
    have h' := DoPost.next hD hF (Below.refl _ _) h
    have e3 : d.sync.1 ≠ 0 → threeS d (nameB i) = d.sync := fun hr => by unfold threeS; rw [if_pos hr]
    exact EachPost.of h' (fun hr p q => ⟨p, q, hr⟩) fun hr p q => by rw [e3 hr]; exact ⟨rfl, p, q⟩
  · rintro W ⟨hD, hF, hr0⟩
    refine (Save1_any hD (hokS 1) (by have := hac 1; omega) ((hF.cell (p := ⟨p2, 0, none⟩) l2 n2).trans h2) ((hF.cell (p := ⟨g, 5, none⟩) l5 ng).trans h5) ((hF.cell (p := ⟨p3, 0, none⟩) l3 n3).trans h3)
      (hgr W hF.size _ l2 n2) (hgr W hF.size _ l5 ng) (hgr W hF.size _ l3 n3) (hT.frm hF hpow) hi0 hi1).mono fun e W' h => ?_
    have h' := DoPost.next hD hF (Below.refl _ _) h
    have e3 : (d.sync.2.move freshS (nameB i)).1 ≠ 0 → threeS d (nameB i) = d.sync.2.move freshS (nameB i) := fun hr => by unfold threeS; rw [if_neg (by rw [show d.sync.1 = 0 from hr0]; simp), if_pos hr]
    exact EachPost.of h' (fun hr p q => ⟨p, q, hr0, hr⟩) fun hr p q => by rw [e3 hr]; exact ⟨rfl, p, q⟩
  · rintro W ⟨hD, hF, hr0, hr1⟩
    refine (Sync_at hD (hokS 2) (by have := hac 2; omega)).mono fun e W' h => ?_
    have h' := DoPost.next hD hF (Below.refl _ _) h
    have e3 : threeS d (nameB i) = (d.sync.2.move freshS (nameB i)).2.sync := by unfold threeS; rw [if_neg (by rw [hr0]; simp), if_neg (by rw [hr1]; simp)]
    refine EachPost.of h' (fun hr p q => ⟨p, q, ?_⟩) fun hr p q => by rw [e3]; exact ⟨rfl, p, q⟩
    show threeS d (nameB i) = (0, _)
    rw [e3]
    exact Prod.ext hr rfl
  rintro e W (⟨rfl, hD, hF, h3⟩ | ⟨r, -, rfl, rfl, hD, hF⟩)
  · have h3 : threeS d (nameB i) = (0, (d.sync.2.move freshS (nameB i)).2.sync.2) := h3
    rw [h3]
    exact ⟨rfl, hD, hF⟩
  exact ⟨rfl, hD, hF⟩

/-- A vault with its disk. -/
def VaAt (A : Nat → Prop) (w : World) (g dg : Nat) (v : VS) : Prop :=
  ∃ D G, DiskAt D w dg v.d ∧ VaO G w g v.s v.some dg ∧ (∀ q, D q → A q ∧ q ≠ g ∧ ¬ G q) ∧ (∀ q, G q → A q ∧ q ≠ g) ∧ A g ∧ ∀ q, A q → q < w.heap.size
/-- What holds of each vault that a call made. -/
structure VS.Ok (v : VS) : Prop where
  d : v.d.Ok
  s : v.some = true → checkS v.s = 0
def SavePost (A : Nat → Prop) (g dg : Nat) (r : Int × VS) (w : World) (e : Ending) (w' : World) : Prop :=
  e = .returned (.int .i64 r.1) ∧ VaAt (grow A w w') w' g dg r.2 ∧ Frm A w w'
theorem VaAt.lt {A : Nat → Prop} {w : World} {g dg : Nat} {v : VS} (h : VaAt A w g dg v) : ∀ q, A q → q < w.heap.size := by
  obtain ⟨D, G, -, -, -, -, -, h⟩ := h; exact h
theorem VaAt.frm {A E : Nat → Prop} {w w' : World} {g dg : Nat} {v : VS} (h : VaAt A w g dg v) (hf : Frm E w w') (hE : ∀ q, A q → ¬ E q) : VaAt A w' g dg v := by
  obtain ⟨D, G, h1, h2, h3, h4, h5, h6⟩ := h
  refine ⟨D, G, h1.frm hf fun q hq => hE q (h3 q hq).1, h2.keep (hf.block g (h6 g h5) (hE g h5)) fun k hk hl => ⟨hk, hf.block k hl (hE k (h4 k hk).1)⟩, h3, h4, h5, fun q hq => Nat.lt_of_lt_of_le (h6 q hq) hf.size⟩
theorem VaAt.below {A : Nat → Prop} {w w' : World} {g dg : Nat} {v : VS} (h : VaAt A w g dg v) (hf : Ext w w') : VaAt A w' g dg v := h.frm (Frm.of_ext hf (fun _ => False)) fun _ _ h => h
theorem VaAt.more {A E : Nat → Prop} {w : World} {g dg : Nat} {v : VS} (h : VaAt A w g dg v) (hE : ∀ q, A q → E q) (hl : ∀ q, E q → q < w.heap.size) : VaAt E w g dg v := by
  obtain ⟨D, G, h1, h2, h3, h4, h5, h6⟩ := h
  exact ⟨D, G, h1, h2, fun q hq => ⟨hE q (h3 q hq).1, (h3 q hq).2⟩, fun q hq => ⟨hE q (h4 q hq).1, (h4 q hq).2⟩, hE g h5, hl⟩
/-- A call that left the vault as it was. -/
theorem VaAt.same {A : Nat → Prop} {w w' : World} {g dg : Nat} {v : VS} (h : VaAt A w g dg v) (hx : Ext w w') (z : Int) : SavePost A g dg (z, v) w (.returned (.int .i64 z)) w' :=
  ⟨rfl, (h.below hx).more (fun q hq => .inl hq) (grow.lt h.lt hx.size), Frm.of_ext hx A⟩
/-- The disk did something. -/
theorem VaAt.disk {A D G : Nat → Prop} {w w1 w2 : World} {g dg : Nat} {v : VS} {d : DS} (h2 : VaO G w1 g v.s v.some dg) (h3 : ∀ q, D q → A q ∧ q ≠ g ∧ ¬ G q) (h4 : ∀ q, G q → A q ∧ q ≠ g) (h5 : A g) (h6 : ∀ q, A q → q < w.heap.size)
    (h6D : ∀ q, D q → q < w1.heap.size) (hx : Frm A w w1) (hp : DiskAt (grow D w1 w2) w2 dg d) (hf : Frm D w1 w2) : VaAt (grow A w w2) w2 g dg ⟨v.s, v.some, d⟩ ∧ Frm A w w2 := by
  have z1 := hx.size
  have z2 := hf.size
  have hG : ∀ k, G k → ¬ D k := fun k hk hD => (h3 k hD).2.2 hk
  have hgD : ¬ D g := fun h => (h3 g h).2.1 rfl
  refine ⟨⟨grow D w1 w2, G, hp, h2.keep (hf.block g h2.lt hgD) fun k hk hl => ⟨hk, hf.block k hl (hG k hk)⟩, fun q hq => ?_, fun q hq => ⟨.inl (h4 q hq).1, (h4 q hq).2⟩, .inl h5, fun q hq => ?_⟩, hx.trans hf fun q hq => .inl (h3 q hq).1⟩
  · rcases hq with hq | hq
    · exact ⟨.inl (h3 q hq).1, (h3 q hq).2⟩
    refine ⟨.inr ⟨by omega, hq.2⟩, ?_, fun h => ?_⟩
    · have := h6 g h5; omega
    have := h6 q (h4 q h).1; omega
  rcases hq with hq | hq
  · have := h6 q hq; omega
  exact hq.2
end Go.Proofs.YtjapeaoebjmpnaaGreatDoor
