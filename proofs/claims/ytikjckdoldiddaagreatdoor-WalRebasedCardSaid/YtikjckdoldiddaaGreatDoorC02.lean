/- The walk of fall. -/
import Derived.Test.YtikjckdoldiddaaGreatDoorC01
import Derived.Deep.RegionHeld3
import Derived.StillTailTactics
namespace Go.Proofs.YtikjckdoldiddaaGreatDoor
open Go.RowKit Go.Maps
set_option linter.unusedVariables false
set_option linter.unusedSimpArgs false
attribute [local go_sem] bmax2 bmin2 bmax_two bmin_two

theorem ext_drew (w : World) : Ext w w.drew := ⟨rfl, rfl, rfl, Nat.le_refl _, fun _ _ => rfl⟩
theorem ext_drewN (w : World) (k : Nat) : Ext w (w.drewN k) := ⟨rfl, rfl, rfl, Nat.le_refl _, fun _ _ => rfl⟩
theorem aTot_mem {l : List ActS} {k : Nat} (hk : k < l.length) : l[k].data.length ≤ aTot l := by
  have h1 := aTot_take l k hk
  have h2 := aTot_take_le l (k + 1)
  omega
theorem lastsS_len (l : List ActS) (keep tear : Int) : (lastsS l keep tear).length = (max 0 (min keep l.length)).toNat := by
  unfold lastsS
  by_cases hn : (max 0 (min keep l.length)).toNat = 0
  · rw [if_pos hn, hn]; rfl
  rw [if_neg hn]
  have hm : (max 0 (min keep l.length)).toNat - 1 < l.length := by omega
  rw [List.getElem?_eq_getElem hm]
  simp; omega
theorem lastsS_at (l : List ActS) (keep tear : Int) (k : Nat) (hk : k < (max 0 (min keep l.length)).toNat) (hl : k < l.length) (hM : k < (lastsS l keep tear).length) :
    (lastsS l keep tear)[k] = if k + 1 = (max 0 (min keep l.length)).toNat then l[k].cut (l[k].data.length - (max 0 (min tear l[k].data.length)).toNat) else l[k] := by
  unfold lastsS at hM ⊢
  have hn : ¬ (max 0 (min keep l.length)).toNat = 0 := by omega
  simp only [if_neg hn] at hM ⊢
  have hm : (max 0 (min keep l.length)).toNat - 1 < l.length := by omega
  simp only [List.getElem?_eq_getElem hm, Option.map_some, Option.toList_some] at hM ⊢
  by_cases he : k + 1 = (max 0 (min keep l.length)).toNat
  · rw [if_pos he]
    rw [List.getElem_append_right (by simp; omega)]
    have : (max 0 (min keep l.length)).toNat - 1 = k := by omega
    simp [this]
  rw [if_neg he, List.getElem_append_left (by simp; omega), List.getElem_take]
theorem runAll_take {T : Tab} {l : List ActS} {k : Nat} (hk : k < l.length) : runAll T (l.take (k + 1)) = l[k].run (runAll T (l.take k)) := by
  rw [List.take_succ_eq_append_getElem hk, runAll_snoc]
theorem fitsAll_at {T : Tab} {l : List ActS} (h : fitsAll T l) {k : Nat} (hk : k < l.length) : fitsAll T (l.take k) ∧ (l[k]).Fits (runAll T (l.take k)) := by
  have hs : l = l.take k ++ (l[k] :: l.drop (k + 1)) := by rw [← List.drop_eq_getElem_cons hk, List.take_append_drop]
  rw [hs, fitsAll_append] at h
  exact ⟨h.1, h.2.1⟩

theorem tab_next {F : Nat → Prop} {w wr W w4 : World} {ml : Nat} {T : Tab} (h : TabAt (fun q => (F q ∨ (w.heap.size ≤ q ∧ q < wr.heap.size)) ∨ (W.heap.size ≤ q ∧ q < w4.heap.size)) w4 ml T) (h1 : w.heap.size ≤ wr.heap.size) (h2 : Ext wr W) (h3 : W.heap.size ≤ w4.heap.size) :
    TabAt (fun q => F q ∨ (w.heap.size ≤ q ∧ q < w4.heap.size)) w4 ml T := by
  have h4 := h2.size
  refine h.keep rfl fun q hq hl => ⟨?_, rfl⟩
  rcases hq with (hq | hq) | hq
  · exact .inl hq
  · exact .inr ⟨hq.1, by omega⟩
  exact .inr ⟨by omega, hq.2⟩
/-- A struct's cells are written. -/
structure SetG (g : Nat) (T : TypeId) (w w' : World) (cs : Array Value) : Prop where
  frm : Frm (fun q => q = g) w w'
  size : w'.heap.size = w.heap.size
  obj : w'.heap[g]? = some (.cells cs T (0, 0))
theorem SetG.start {g : Nat} {T : TypeId} {w : World} {cs : Array Value} (h : w.heap[g]? = some (.cells cs T (0, 0))) : SetG g T w w cs := ⟨Frm.refl _ _, rfl, h⟩
theorem SetG.step {g : Nat} {T : TypeId} {w w' : World} {cs : Array Value} (h : SetG g T w w' cs) (i : Nat) (v : Value) : SetG g T w (w'.setCell ⟨g, i, none⟩ v) (cs.setIfInBounds i v) :=
  ⟨h.frm.trans (Frm.mk rfl rfl rfl (by simp [World.setCell]) fun k hk hn => heap_setCell_other w' _ k v hn) fun q hq => .inl hq, by rw [← h.size]; simp [World.setCell], heap_setCell_same w' g i cs T v h.obj⟩
/-- A disk without acts, out of its parts. -/
theorem disk_done {D E F1 F2 : Nat → Prop} {w : World} {g m1 m2 : Nat} {s : DS} (hl : ∀ q, D q → q < w.heap.size) (hg : D g) (h1 : TabAt F1 w m1 s.seen) (h2 : TabAt F2 w m2 s.last) (hne : m1 ≠ m2) (ha : s.acts = [])
    (hobj : w.heap[g]? = some (.cells #[.bool s.off, .int .i64 s.left, .int .i64 s.keep, .int .i64 s.tear, .int .i64 s.room, .map (some m1), .map (some m2), .slice none 0 0] 76 (0, 0)))
    (hD1 : D m1) (hD2 : D m2) (hF1 : ∀ q, F1 q → q < w.heap.size → D q ∧ q ≠ g ∧ q ≠ m2 ∧ q ≠ m1) (hF2 : ∀ q, F2 q → q < w.heap.size → D q ∧ q ≠ g ∧ q ≠ m1 ∧ q ≠ m2) : DiskIn D w g s m1 m2 (.slice none 0 0) [] :=
  ⟨hobj, h1.keep rfl fun q hq hl => ⟨⟨(hF1 q hq hl).1, (hF1 q hq hl).2.1, (hF1 q hq hl).2.2.2, (hF1 q hq hl).2.2.1, (fun e => by cases e)⟩, rfl⟩, h2.keep rfl fun q hq hl => ⟨⟨(hF2 q hq hl).1, (hF2 q hq hl).2.1, (hF2 q hq hl).2.2.1, (hF2 q hq hl).2.2.2, (fun e => by cases e)⟩, rfl⟩,
    World.ownsRow_nil _ _ _ _, by rw [ha]; trivial, hg, hD1, hD2, (fun b hb => by cases hb), hne, (fun e => by cases e), hl⟩
theorem fall_done {D : Nat → Prop} {w wr w5 w6 : World} {g : Nat} {s : DS} {ms ml mb : Nat} {av : Value} {H : List AcH} (h : DiskIn D w g s ms ml av H) {T : Tab} {s' : DS}
    (hT : TabAt (fun q => Imm D g ms ml av q ∨ (w.heap.size ≤ q ∧ q < wr.heap.size)) wr ml T) (hF : Frm (fun q => q = ml) w wr) (h5 : TabAt (fun q => wr.heap.size ≤ q ∧ q < w5.heap.size ∧ q ≠ mb) w5 mb T) (hmb : wr.heap.size ≤ mb) (hx : Ext wr w5)
    (hS : SetG g 76 w5 w6 #[.bool s'.off, .int .i64 s'.left, .int .i64 s'.keep, .int .i64 s'.tear, .int .i64 s'.room, .map (some mb), .map (some ml), .slice none 0 0]) (hs1 : s'.seen = T) (hs2 : s'.last = T) (hs3 : s'.acts = []) :
    DiskAt (grow D w w6) w6 g s' ∧ Frm D w w6 := by
  have hgl := h.lt g h.dg
  have hll := h.lt ml h.dml
  have hgm := h.gms
  have z1 := hF.size
  have z2 := hx.size
  have z3 := hS.size
  have hmb5 := h5.lt
  refine ⟨⟨mb, ml, .slice none 0 0, [], ?_⟩, ?_⟩
  · refine disk_done (E := D) (F1 := fun q => wr.heap.size ≤ q ∧ q < w5.heap.size ∧ q ≠ mb) (F2 := fun q => Imm D g ms ml av q ∨ (w.heap.size ≤ q ∧ q < wr.heap.size)) (grow.lt h.lt (by omega)) (.inl h.dg) ?_ ?_ (by omega) hs3 hS.obj (.inr ⟨by omega, by omega⟩) (.inl h.dml) ?_ ?_
    · rw [hs1]
      exact h5.keep (hS.frm.block mb hmb5 (by omega)) fun q hq hl => ⟨hq, hS.frm.block q hl (by omega)⟩
    · rw [hs2]
      refine (hT.below hx).keep (hS.frm.block ml (by omega) (fun e => hgm.2 e.symm)) fun q hq hl => ⟨hq, hS.frm.block q hl ?_⟩
      rcases hq with hq | hq
      · exact hq.2.1
      omega
    · intro q hq _
      exact ⟨.inr ⟨by omega, by omega⟩, by omega, by omega, hq.2.2⟩
    intro q hq _
    rcases hq with hq | hq
    · have := h.lt q hq.1
      exact ⟨.inl hq.1, hq.2.1, by omega, hq.2.2.2.1⟩
    exact ⟨.inr ⟨by omega, by omega⟩, by omega, by omega, by omega⟩
  refine ((hF.more (E := D) fun q e => by subst e; exact h.dml).then_ext hx).trans hS.frm fun q e => ?_
  subst e; exact .inl h.dg
/-- What fall leaves. -/
def FallPost (D : Nat → Prop) (g : Nat) (s' : DS) (w : World) (e : Ending) (w' : World) : Prop := e = .returned (.tuple #[]) ∧ DiskAt (grow D w w') w' g s' ∧ Frm D w w'

set_option maxRecDepth 100000 in
set_option maxHeartbeats 4000000 in
theorem fall_in {D : Nat → Prop} {w : World} {g : Nat} {s : DS} {ms ml : Nat} {av : Value} {H : List AcH} (h : DiskIn D w g s ms ml av H) (hok : s.Ok) (hcount : s.acts.length ≤ 1000000000000) (keep tear : Int) (hk64 : In64 keep) (ht64 : In64 tear) :
    Calls Tryz.prog 54 #[.pointer (some ⟨g, 0, none⟩), .int .i64 keep, .int .i64 tear] w (FallPost D g (s.fall keep tear) w) := by
  obtain ⟨-, -, -, -, -, -, c6, c7, hfz, hgl⟩ := h.cells
  obtain ⟨hk1, hk2⟩ := hk64
  obtain ⟨ht1, ht2⟩ := ht64
  have hlen := h.acts.len
  obtain ⟨a, c, rfl, hHc, hac⟩ := h.av_form
  obtain ⟨N, hN⟩ : ∃ N, N = (max 0 (min keep s.acts.length)).toNat := ⟨_, rfl⟩
  have hNle : N ≤ H.length := by omega
  have hML := lastsS_len s.acts keep tear
  have hMF := fitsAll_lasts hok.fits keep tear
  have hok2 := runAll_ok s.acts s.last hok.fits hok.rise hok.len
  obtain ⟨-, -, -, hl16, ha16⟩ := hok.run
  have hused := hok.used
  have hroom := hok.room1
  have hMA := fun k hk hl hM => lastsS_at s.acts keep tear k hk hl hM
  rw [← hN] at hML hMA
  unfold DS.fall
  generalize lastsS s.acts keep tear = M at *
  have hTk : ∀ k, k ≤ N → fitsAll s.last (M.take k) ∧ tRise (runAll s.last (M.take k)) ∧ (runAll s.last (M.take k)).length ≤ 4096 ∧ tTot (runAll s.last (M.take k)) ≤ 16777216 := by
    intro k hk
    have hf : fitsAll s.last (M.take k) := by
      have := hMF.1
      rw [← List.take_append_drop k M, fitsAll_append] at this
      exact this.1
    obtain ⟨r1, r2, r3⟩ := runAll_ok (M.take k) s.last hf hok.rise hok.len
    have := aTot_take_le M k
    unfold DS.used at hused
    exact ⟨hf, r1, r2, by omega⟩
  have hNk : max 0 (min keep (H.length : Int)) = (N : Int) := by omega
  have HI := hid h
  have HTK := hid hTk
  have HMA := hid hMA
  have HML := hid hML
  have HMF := hid hMF.1
  have HNN := hid hN
  have HLEN := hid hlen
  have hHb : H.length ≤ 1000000000000 := by omega
  have hNc : (N : Int) ≤ (c : Int) := by omega
  have hmlne : ml ≠ g := fun e => h.gms.2 e.symm
  have hmllt := h.last.lt
  have hgml := h.gms
  have havn := h.avne
  have HLT := hid h.lt
  have HA16 := hid ha16
  clear h hTk hMA hML hMF hN hlen hok hused hroom hok2 hcount hHc hl16 ha16
  go_enter Tryz.func54, Tryz.ntmps54
  clear hfz
  go_wp2
  go_loopw [25] (fun z wr => ∃ k : Nat, k ≤ N ∧ z = .int .i64 k ∧ Hid (TabAt (fun q => Imm D g ms ml (.slice a H.length c) q ∨ (w.heap.size ≤ q ∧ q < wr.heap.size)) wr ml (runAll s.last (M.take k))) ∧ Hid (Frm (fun q => q = ml) w wr)) (fun z _ => N - (intOf z).toNat)
  case atStart => exact ⟨0, Nat.zero_le _, rfl, HI.out.last.keep rfl fun q hq _ => ⟨.inl hq, rfl⟩, Frm.refl _ _⟩
  obtain ⟨k, hk, rfl, HT, HF⟩ := hrel
  have hsz := HF.out.size
  have c6' := (HF.out.cell (p := ⟨g, 6, none⟩) hgl hgml.2).trans c6
  have hgr : g < wr.heap.size := by omega
  by_cases hlt : k < N
  · have hkH : k < H.length := by omega
    obtain ⟨b, c', hv, -, hDb, hbl, q0, q1, q2⟩ := HI.out.act_at hkH
    injection hv with e1 e2 e3
    subst e1; subst e3
    have hbml : b ≠ ml := by intro e; subst e; exact havn.2 rfl
    have hkl : k < s.acts.length := by have := HLEN.out; omega
    have hkM : k < M.length := by rw [HML.out]; exact hlt
    obtain ⟨hav, hby⟩ := HI.out.acts.at_ k hkH hkl
    have hMk := HMA.out k hlt hkl hkM
    obtain ⟨-, hfit⟩ := fitsAll_at HMF.out hkM
    obtain ⟨-, -, hTl, hTt⟩ := HTK.out k (by omega)
    have hrun := runAll_take (T := s.last) hkM
    rw [hMk] at hfit hrun
    have HRUN := hid hrun
    have HFIT := hid hfit
    have q0 := (HF.out.cell (p := ⟨b, k * 3, none⟩) hbl hbml).trans q0
    have q1 := (HF.out.cell (p := ⟨b, k * 3 + 1, none⟩) hbl hbml).trans q1
    have q2 := (HF.out.cell (p := ⟨b, k * 3 + 2, none⟩) hbl hbml).trans q2
    have hbr : b < wr.heap.size := by omega
    have hnd := hby.1
    have hx16 : (H[k]).n ≤ 16777216 := by have := aTot_mem hkl; have := HA16.out; omega
    generalize hA : s.acts[k] = A at *
    generalize H[k] = x at *
    obtain ⟨xf, xa, xn, xc⟩ := x
    dsimp only at hav hby q0 q1 q2 hnd hx16
    have hxc : (xn : Int) ≤ (xc : Int) := by have := hby.2.1; omega
    have HBY := hid hby
    have HAV := hid hav
    have HND := hid hnd
    clear hMk hfit hrun hkM hav hby hnd hA e2
    have hImm : ∀ q, Imm D g ms ml (.slice (some ⟨b, 0, none⟩) H.length c) q → q < w.heap.size → Imm D g ms ml (.slice (some ⟨b, 0, none⟩) H.length c) q ∧ wr.heap[q]? = w.heap[q]? := fun q hq hl => ⟨hq, HF.out.block q hl hq.2.2.2.1⟩
    have HAW := hid (HAV.out.keep hImm)
    have HBW := hid (HBY.out.keep hImm)
    have hx1 := ext_alloc wr (.cells #[xf, .slice xa xn xc, .int .i64 (xn : Int)] 117)
    have HX1 := hid hx1
    have hFml : ¬ (Imm D g ms ml (.slice (some ⟨b, 0, none⟩) H.length c) ml ∨ (w.heap.size ≤ ml ∧ ml < wr.heap.size)) := by rintro (h | h); exact h.2.2.2.1 rfl; omega
    have HFML := hid hFml
    clear HAV HBY hImm hx1 hFml
    have hn16 : xn ≤ 140737488351232 := HBW.out.2.2.1.2
    by_cases hlast : k + 1 = N
    · have hlb : ((k : Int) == (N : Int) - 1) = true := by simp; omega
      obtain ⟨cut, hcut⟩ : ∃ cut : Nat, (xn : Int) - max 0 (min tear (xn : Int)) = (cut : Int) := ⟨((xn : Int) - max 0 (min tear (xn : Int))).toNat, by omega⟩
      have hcutle : cut ≤ xn := by omega
      have hcutc : (cut : Int) ≤ (xc : Int) := by omega
      rw [if_pos hlast] at HRUN HFIT
      have hcn : A.data.length - (max 0 (min tear (A.data.length : Int))).toNat = cut := by have := HND.out; rw [← this]; omega
      rw [hcn] at HRUN HFIT
      have HBC := hid (HBW.out.take hcutle)
      rw [← ActS.cut_data] at HBC
      clear hcn hlast
      cases A with
      | write n kk bb =>
        have hav := HAW.out
        obtain ⟨p, q, hfv, hFp, hFq, hp, hq⟩ := hav
        subst hfv
        have hp2 := (HX1.out.cell (p := ⟨p, 0, none⟩) (World.block_lt_of_cell? wr _ hp)).trans hp
        have hq2 := (HX1.out.cell (p := ⟨q, 0, none⟩) (World.block_lt_of_cell? wr _ hq)).trans hq
        have HP2 := hid hp2
        have HQ2 := hid hq2
        clear hp2 hp HAW hq2 hq
        have HB2 := hid (HBC.out.below HX1.out)
        have HT2 := hid (HT.out.below HX1.out)
        go_wp2_with fail
        have S4 : ∀ {w4 : World}, w4.heap[wr.heap.size]? = (wr.alloc (.cells #[.func (.func 121) #[] #[.pointer (some ⟨p, 0, none⟩), .pointer (some ⟨q, 0, none⟩)], .slice xa xn xc, .int .i64 (xn : Int)] 117)).drew.heap[wr.heap.size]? → w4.heap[g]? = (wr.alloc (.cells #[.func (.func 121) #[] #[.pointer (some ⟨p, 0, none⟩), .pointer (some ⟨q, 0, none⟩)], .slice xa xn xc, .int .i64 (xn : Int)] 117)).drew.heap[g]? → w4.cell? ⟨wr.heap.size, 0, none⟩ = some (.func (.func 121) #[] #[.pointer (some ⟨p, 0, none⟩), .pointer (some ⟨q, 0, none⟩)]) ∧ w4.cell? ⟨g, 6, none⟩ = some (.map (some ml)) := fun e4 e5 => ⟨by unfold World.cell?; rw [e4]; show (match (wr.alloc _).heap[wr.heap.size]? with | some (.cells cs _ _) => _ | _ => _) = _; rw [heap_alloc_new]; rfl, by have := HX1.out.cell (p := ⟨g, 6, none⟩) hgr; exact (World.cell?_of_block (w := (wr.alloc _).drew) e5).trans (this.trans c6')⟩
        go_region_held3 (fun w' => w'.cell? ⟨wr.heap.size, 0, none⟩ = some (.func (.func 121) #[] #[.pointer (some ⟨p, 0, none⟩), .pointer (some ⟨q, 0, none⟩)]) ∧ w'.cell? ⟨g, 6, none⟩ = some (.map (some ml))) (first | go_keep | exact y4) ((go_at_call 121; refine Calls.mono (Write1_any (HT2.out.below (ext_drew _)) HFML.out HFIT.out hTl hTt (HB2.out.below (ext_drew _)) (by have := HND.out; simp only [ActS.data] at this; first | (simp; omega) | omega) HP2.out HQ2.out) ?_; rintro e w4 ⟨rfl, ht4, hf4⟩; have e4 := hf4.block wr.heap.size (by show wr.heap.size < (wr.alloc _).heap.size; simp) (by omega); have e5 := hf4.block g (by show g < (wr.alloc _).heap.size; simp; omega) (by omega); have y4 := S4 e4 e5; have HT4 := hid ht4; have HF4 := hid hf4; clear ht4 hf4))
        all_goals
          go_wp2
          go_roundw
          case rel => exact ⟨k + 1, by omega, by go_num, by rw [HRUN.out]; exact tab_next HT4.out hsz (Ext.trans' HX1.out (ext_drew _)) HF4.out.size, (HF.out.then_ext (Ext.trans' HX1.out (ext_drew _))).trans HF4.out fun q hq => .inl hq⟩
          case measure => simp [intOf]; omega
      | trim n kk =>
        have hav := HAW.out
        obtain ⟨p, q, hfv, hFp, hFq, hp, hq⟩ := hav
        subst hfv
        have hp2 := (HX1.out.cell (p := ⟨p, 0, none⟩) (World.block_lt_of_cell? wr _ hp)).trans hp
        have hq2 := (HX1.out.cell (p := ⟨q, 0, none⟩) (World.block_lt_of_cell? wr _ hq)).trans hq
        have HP2 := hid hp2
        have HQ2 := hid hq2
        clear hp2 hp HAW hq2 hq
        have HB2 := hid (HBC.out.below HX1.out)
        have HT2 := hid (HT.out.below HX1.out)
        go_wp2_with fail
        have S4 : ∀ {w4 : World}, w4.heap[wr.heap.size]? = (wr.alloc (.cells #[.func (.func 113) #[] #[.pointer (some ⟨p, 0, none⟩), .pointer (some ⟨q, 0, none⟩)], .slice xa xn xc, .int .i64 (xn : Int)] 117)).drew.heap[wr.heap.size]? → w4.heap[g]? = (wr.alloc (.cells #[.func (.func 113) #[] #[.pointer (some ⟨p, 0, none⟩), .pointer (some ⟨q, 0, none⟩)], .slice xa xn xc, .int .i64 (xn : Int)] 117)).drew.heap[g]? → w4.cell? ⟨wr.heap.size, 0, none⟩ = some (.func (.func 113) #[] #[.pointer (some ⟨p, 0, none⟩), .pointer (some ⟨q, 0, none⟩)]) ∧ w4.cell? ⟨g, 6, none⟩ = some (.map (some ml)) := fun e4 e5 => ⟨by unfold World.cell?; rw [e4]; show (match (wr.alloc _).heap[wr.heap.size]? with | some (.cells cs _ _) => _ | _ => _) = _; rw [heap_alloc_new]; rfl, by have := HX1.out.cell (p := ⟨g, 6, none⟩) hgr; exact (World.cell?_of_block (w := (wr.alloc _).drew) e5).trans (this.trans c6')⟩
        go_region_held3 (fun w' => w'.cell? ⟨wr.heap.size, 0, none⟩ = some (.func (.func 113) #[] #[.pointer (some ⟨p, 0, none⟩), .pointer (some ⟨q, 0, none⟩)]) ∧ w'.cell? ⟨g, 6, none⟩ = some (.map (some ml))) (first | go_keep | exact y4) ((go_at_call 113; refine Calls.mono (Trim1_any (HT2.out.below (ext_drew _)) HFML.out HFIT.out hTl hTt HP2.out HQ2.out) ?_; rintro e w4 ⟨rfl, ht4, hf4⟩; have e4 := hf4.block wr.heap.size (by show wr.heap.size < (wr.alloc _).heap.size; simp) (by omega); have e5 := hf4.block g (by show g < (wr.alloc _).heap.size; simp; omega) (by omega); have y4 := S4 e4 e5; have HT4 := hid ht4; have HF4 := hid hf4; clear ht4 hf4))
        all_goals
          go_wp2
          go_roundw
          case rel => exact ⟨k + 1, by omega, by go_num, by rw [HRUN.out]; exact tab_next HT4.out hsz (Ext.trans' HX1.out (ext_drew _)) HF4.out.size, (HF.out.then_ext (Ext.trans' HX1.out (ext_drew _))).trans HF4.out fun q hq => .inl hq⟩
          case measure => simp [intOf]; omega
      | move o n => exact HAW.out.elim
      | drop n =>
        have hav := HAW.out
        obtain ⟨p, hfv, hFp, hp⟩ := hav
        subst hfv
        have hp2 := (HX1.out.cell (p := ⟨p, 0, none⟩) (World.block_lt_of_cell? wr _ hp)).trans hp
        have HP2 := hid hp2
        clear hp2 hp HAW
        have HB2 := hid (HBC.out.below HX1.out)
        have HT2 := hid (HT.out.below HX1.out)
        go_wp2_with fail
        have S4 : ∀ {w4 : World}, w4.heap[wr.heap.size]? = (wr.alloc (.cells #[.func (.func 112) #[] #[.pointer (some ⟨p, 0, none⟩)], .slice xa xn xc, .int .i64 (xn : Int)] 117)).drew.heap[wr.heap.size]? → w4.heap[g]? = (wr.alloc (.cells #[.func (.func 112) #[] #[.pointer (some ⟨p, 0, none⟩)], .slice xa xn xc, .int .i64 (xn : Int)] 117)).drew.heap[g]? → w4.cell? ⟨wr.heap.size, 0, none⟩ = some (.func (.func 112) #[] #[.pointer (some ⟨p, 0, none⟩)]) ∧ w4.cell? ⟨g, 6, none⟩ = some (.map (some ml)) := fun e4 e5 => ⟨by unfold World.cell?; rw [e4]; show (match (wr.alloc _).heap[wr.heap.size]? with | some (.cells cs _ _) => _ | _ => _) = _; rw [heap_alloc_new]; rfl, by have := HX1.out.cell (p := ⟨g, 6, none⟩) hgr; exact (World.cell?_of_block (w := (wr.alloc _).drew) e5).trans (this.trans c6')⟩
        go_region_held3 (fun w' => w'.cell? ⟨wr.heap.size, 0, none⟩ = some (.func (.func 112) #[] #[.pointer (some ⟨p, 0, none⟩)]) ∧ w'.cell? ⟨g, 6, none⟩ = some (.map (some ml))) (first | go_keep | exact y4) ((go_at_call 112; refine Calls.mono (Drop1_any (HT2.out.below (ext_drew _)) HFML.out HFIT.out HP2.out) ?_; rintro e w4 ⟨rfl, ht4, hf4⟩; have e4 := hf4.block wr.heap.size (by show wr.heap.size < (wr.alloc _).heap.size; simp) (by omega); have e5 := hf4.block g (by show g < (wr.alloc _).heap.size; simp; omega) (by omega); have y4 := S4 e4 e5; have HT4 := hid ht4; have HF4 := hid hf4; clear ht4 hf4))
        all_goals
          go_wp2
          go_roundw
          case rel => exact ⟨k + 1, by omega, by go_num, by rw [HRUN.out]; exact tab_next HT4.out hsz (Ext.trans' HX1.out (ext_drew _)) HF4.out.size, (HF.out.then_ext (Ext.trans' HX1.out (ext_drew _))).trans HF4.out fun q hq => .inl hq⟩
          case measure => simp [intOf]; omega
    have hlb : ((k : Int) == (N : Int) - 1) = false := by simp; omega
    rw [if_neg hlast] at HRUN HFIT
    have HBC := HBW
    clear hlast
    cases A with
    | write n kk bb =>
      have hav := HAW.out
      obtain ⟨p, q, hfv, hFp, hFq, hp, hq⟩ := hav
      subst hfv
      have hp2 := (HX1.out.cell (p := ⟨p, 0, none⟩) (World.block_lt_of_cell? wr _ hp)).trans hp
      have hq2 := (HX1.out.cell (p := ⟨q, 0, none⟩) (World.block_lt_of_cell? wr _ hq)).trans hq
      have HP2 := hid hp2
      have HQ2 := hid hq2
      clear hp2 hp HAW hq2 hq
      have HB2 := hid (HBC.out.below HX1.out)
      have HT2 := hid (HT.out.below HX1.out)
      go_wp2_with fail
      have S4 : ∀ {w4 : World}, w4.heap[wr.heap.size]? = (wr.alloc (.cells #[.func (.func 121) #[] #[.pointer (some ⟨p, 0, none⟩), .pointer (some ⟨q, 0, none⟩)], .slice xa xn xc, .int .i64 (xn : Int)] 117)).drew.heap[wr.heap.size]? → w4.heap[g]? = (wr.alloc (.cells #[.func (.func 121) #[] #[.pointer (some ⟨p, 0, none⟩), .pointer (some ⟨q, 0, none⟩)], .slice xa xn xc, .int .i64 (xn : Int)] 117)).drew.heap[g]? → w4.cell? ⟨wr.heap.size, 0, none⟩ = some (.func (.func 121) #[] #[.pointer (some ⟨p, 0, none⟩), .pointer (some ⟨q, 0, none⟩)]) ∧ w4.cell? ⟨g, 6, none⟩ = some (.map (some ml)) := fun e4 e5 => ⟨by unfold World.cell?; rw [e4]; show (match (wr.alloc _).heap[wr.heap.size]? with | some (.cells cs _ _) => _ | _ => _) = _; rw [heap_alloc_new]; rfl, by have := HX1.out.cell (p := ⟨g, 6, none⟩) hgr; exact (World.cell?_of_block (w := (wr.alloc _).drew) e5).trans (this.trans c6')⟩
      go_region_held3 (fun w' => w'.cell? ⟨wr.heap.size, 0, none⟩ = some (.func (.func 121) #[] #[.pointer (some ⟨p, 0, none⟩), .pointer (some ⟨q, 0, none⟩)]) ∧ w'.cell? ⟨g, 6, none⟩ = some (.map (some ml))) (first | go_keep | exact y4) ((go_at_call 121; refine Calls.mono (Write1_any (HT2.out.below (ext_drew _)) HFML.out HFIT.out hTl hTt (HB2.out.below (ext_drew _)) (by have := HND.out; simp only [ActS.data] at this; first | (simp; omega) | omega) HP2.out HQ2.out) ?_; rintro e w4 ⟨rfl, ht4, hf4⟩; have e4 := hf4.block wr.heap.size (by show wr.heap.size < (wr.alloc _).heap.size; simp) (by omega); have e5 := hf4.block g (by show g < (wr.alloc _).heap.size; simp; omega) (by omega); have y4 := S4 e4 e5; have HT4 := hid ht4; have HF4 := hid hf4; clear ht4 hf4))
      all_goals
        go_wp2
        go_roundw
        case rel => exact ⟨k + 1, by omega, by go_num, by rw [HRUN.out]; exact tab_next HT4.out hsz (Ext.trans' HX1.out (ext_drew _)) HF4.out.size, (HF.out.then_ext (Ext.trans' HX1.out (ext_drew _))).trans HF4.out fun q hq => .inl hq⟩
        case measure => simp [intOf]; omega
    | trim n kk =>
      have hav := HAW.out
      obtain ⟨p, q, hfv, hFp, hFq, hp, hq⟩ := hav
      subst hfv
      have hp2 := (HX1.out.cell (p := ⟨p, 0, none⟩) (World.block_lt_of_cell? wr _ hp)).trans hp
      have hq2 := (HX1.out.cell (p := ⟨q, 0, none⟩) (World.block_lt_of_cell? wr _ hq)).trans hq
      have HP2 := hid hp2
      have HQ2 := hid hq2
      clear hp2 hp HAW hq2 hq
      have HB2 := hid (HBC.out.below HX1.out)
      have HT2 := hid (HT.out.below HX1.out)
      go_wp2_with fail
      have S4 : ∀ {w4 : World}, w4.heap[wr.heap.size]? = (wr.alloc (.cells #[.func (.func 113) #[] #[.pointer (some ⟨p, 0, none⟩), .pointer (some ⟨q, 0, none⟩)], .slice xa xn xc, .int .i64 (xn : Int)] 117)).drew.heap[wr.heap.size]? → w4.heap[g]? = (wr.alloc (.cells #[.func (.func 113) #[] #[.pointer (some ⟨p, 0, none⟩), .pointer (some ⟨q, 0, none⟩)], .slice xa xn xc, .int .i64 (xn : Int)] 117)).drew.heap[g]? → w4.cell? ⟨wr.heap.size, 0, none⟩ = some (.func (.func 113) #[] #[.pointer (some ⟨p, 0, none⟩), .pointer (some ⟨q, 0, none⟩)]) ∧ w4.cell? ⟨g, 6, none⟩ = some (.map (some ml)) := fun e4 e5 => ⟨by unfold World.cell?; rw [e4]; show (match (wr.alloc _).heap[wr.heap.size]? with | some (.cells cs _ _) => _ | _ => _) = _; rw [heap_alloc_new]; rfl, by have := HX1.out.cell (p := ⟨g, 6, none⟩) hgr; exact (World.cell?_of_block (w := (wr.alloc _).drew) e5).trans (this.trans c6')⟩
      go_region_held3 (fun w' => w'.cell? ⟨wr.heap.size, 0, none⟩ = some (.func (.func 113) #[] #[.pointer (some ⟨p, 0, none⟩), .pointer (some ⟨q, 0, none⟩)]) ∧ w'.cell? ⟨g, 6, none⟩ = some (.map (some ml))) (first | go_keep | exact y4) ((go_at_call 113; refine Calls.mono (Trim1_any (HT2.out.below (ext_drew _)) HFML.out HFIT.out hTl hTt HP2.out HQ2.out) ?_; rintro e w4 ⟨rfl, ht4, hf4⟩; have e4 := hf4.block wr.heap.size (by show wr.heap.size < (wr.alloc _).heap.size; simp) (by omega); have e5 := hf4.block g (by show g < (wr.alloc _).heap.size; simp; omega) (by omega); have y4 := S4 e4 e5; have HT4 := hid ht4; have HF4 := hid hf4; clear ht4 hf4))
      all_goals
        go_wp2
        go_roundw
        case rel => exact ⟨k + 1, by omega, by go_num, by rw [HRUN.out]; exact tab_next HT4.out hsz (Ext.trans' HX1.out (ext_drew _)) HF4.out.size, (HF.out.then_ext (Ext.trans' HX1.out (ext_drew _))).trans HF4.out fun q hq => .inl hq⟩
        case measure => simp [intOf]; omega
    | move o n => exact HAW.out.elim
    | drop n =>
      have hav := HAW.out
      obtain ⟨p, hfv, hFp, hp⟩ := hav
      subst hfv
      have hp2 := (HX1.out.cell (p := ⟨p, 0, none⟩) (World.block_lt_of_cell? wr _ hp)).trans hp
      have HP2 := hid hp2
      clear hp2 hp HAW
      have HB2 := hid (HBC.out.below HX1.out)
      have HT2 := hid (HT.out.below HX1.out)
      go_wp2_with fail
      have S4 : ∀ {w4 : World}, w4.heap[wr.heap.size]? = (wr.alloc (.cells #[.func (.func 112) #[] #[.pointer (some ⟨p, 0, none⟩)], .slice xa xn xc, .int .i64 (xn : Int)] 117)).drew.heap[wr.heap.size]? → w4.heap[g]? = (wr.alloc (.cells #[.func (.func 112) #[] #[.pointer (some ⟨p, 0, none⟩)], .slice xa xn xc, .int .i64 (xn : Int)] 117)).drew.heap[g]? → w4.cell? ⟨wr.heap.size, 0, none⟩ = some (.func (.func 112) #[] #[.pointer (some ⟨p, 0, none⟩)]) ∧ w4.cell? ⟨g, 6, none⟩ = some (.map (some ml)) := fun e4 e5 => ⟨by unfold World.cell?; rw [e4]; show (match (wr.alloc _).heap[wr.heap.size]? with | some (.cells cs _ _) => _ | _ => _) = _; rw [heap_alloc_new]; rfl, by have := HX1.out.cell (p := ⟨g, 6, none⟩) hgr; exact (World.cell?_of_block (w := (wr.alloc _).drew) e5).trans (this.trans c6')⟩
      go_region_held3 (fun w' => w'.cell? ⟨wr.heap.size, 0, none⟩ = some (.func (.func 112) #[] #[.pointer (some ⟨p, 0, none⟩)]) ∧ w'.cell? ⟨g, 6, none⟩ = some (.map (some ml))) (first | go_keep | exact y4) ((go_at_call 112; refine Calls.mono (Drop1_any (HT2.out.below (ext_drew _)) HFML.out HFIT.out HP2.out) ?_; rintro e w4 ⟨rfl, ht4, hf4⟩; have e4 := hf4.block wr.heap.size (by show wr.heap.size < (wr.alloc _).heap.size; simp) (by omega); have e5 := hf4.block g (by show g < (wr.alloc _).heap.size; simp; omega) (by omega); have y4 := S4 e4 e5; have HT4 := hid ht4; have HF4 := hid hf4; clear ht4 hf4))
      all_goals
        go_wp2
        go_roundw
        case rel => exact ⟨k + 1, by omega, by go_num, by rw [HRUN.out]; exact tab_next HT4.out hsz (Ext.trans' HX1.out (ext_drew _)) HF4.out.size, (HF.out.then_ext (Ext.trans' HX1.out (ext_drew _))).trans HF4.out fun q hq => .inl hq⟩
        case measure => simp [intOf]; omega
  have hkN : k = N := by omega
  subst hkN
  have HTE := HT
  rw [List.take_of_length_le (by rw [HML.out]; exact Nat.le_refl _)] at HTE
  obtain ⟨-, -, hTl, -⟩ := HTK.out k (Nat.le_refl _)
  rw [List.take_of_length_le (by rw [HML.out]; exact Nat.le_refl _)] at hTl
  go_wp2_with fail
  refine Calls.mono (copied_any HTE.out hTl) ?_
  rintro e w5 ⟨mb, rfl, ht5, hmb, hx5⟩
  have hobj5 := (hx5.block g hgr).trans ((HF.out.block g hgl hgml.2).trans HI.out.obj)
  have HO5 := hid hobj5
  obtain ⟨d0, d1, d2, d3, d5, d7, e0, e1, e2, e3, e5, e7⟩ : w5.cell? ⟨g, 0, none⟩ = some (.bool s.off) ∧ w5.cell? ⟨g, 1, none⟩ = some (.int .i64 s.left) ∧ w5.cell? ⟨g, 2, none⟩ = some (.int .i64 s.keep) ∧ w5.cell? ⟨g, 3, none⟩ = some (.int .i64 s.tear) ∧ w5.cell? ⟨g, 5, none⟩ = some (.map (some ms)) ∧ w5.cell? ⟨g, 7, none⟩ = some (.slice a H.length c) ∧
      w5.frozen? ⟨g, 0, none⟩ = false ∧ w5.frozen? ⟨g, 1, none⟩ = false ∧ w5.frozen? ⟨g, 2, none⟩ = false ∧ w5.frozen? ⟨g, 3, none⟩ = false ∧ w5.frozen? ⟨g, 5, none⟩ = false ∧ w5.frozen? ⟨g, 7, none⟩ = false := by
    refine ⟨?_, ?_, ?_, ?_, ?_, ?_, ?_, ?_, ?_, ?_, ?_, ?_⟩ <;> first | (simp [World.cell?, hobj5]; done) | simp [World.frozen?, hobj5]
  have HT5 := hid ht5
  have HX5 := hid hx5
  have hg5 : g < w5.heap.size := Nat.lt_of_lt_of_le hgr hx5.size
  clear hobj5 ht5 hx5
  go_wp2
  go_end0
  exact ⟨rfl, fall_done HI.out HTE.out HF.out HT5.out hmb HX5.out ((((((SetG.start HO5.out).step 5 _).step 7 _).step 0 _).step 1 _).step 2 _ |>.step 3 _) rfl rfl rfl⟩
end Go.Proofs.YtikjckdoldiddaaGreatDoor

/- The walks of do. -/
namespace Go.Proofs.YtikjckdoldiddaaGreatDoor
open Go.RowKit Go.Maps
set_option linter.unusedVariables false
set_option linter.unusedSimpArgs false
attribute [local go_sem] bmax2 bmin2 bmax_two bmin_two

theorem info_act : (Tryz.prog.info? 117).map (fun i => (i.zero.map fun z => z.cells.size, i.size, i.bytes)) = some (some 3, 3, 40) := by kernel_rfl
theorem info_act2 : ∃ i z, Tryz.prog.info? 117 = some i ∧ i.zero = some z ∧ i.size = 3 ∧ i.bytes = 40 ∧ z.cells.size = 3 := by
  have h := info_act
  cases hi : Tryz.prog.info? 117 with
  | none => rw [hi] at h; cases h
  | some i =>
    rw [hi] at h
    simp only [Option.map_some, Option.some.injEq, Prod.mk.injEq] at h
    obtain ⟨h1, h2, h3⟩ := h
    cases hz : i.zero with
    | none => rw [hz] at h1; cases h1
    | some z => rw [hz] at h1; simp at h1; exact ⟨i, z, rfl, hz, h2, h3, h1⟩

/-- Behind the act, and its place on the list. -/
theorem do_mid {D : Nat → Prop} {w w1 w2 : World} {g : Nat} {s : DS} {ms ml : Nat} {av v' : Value} {H : List AcH} (h : DiskIn D w g s ms ml av H) {a : ActS} {x : AcH} {o : Obj}
    (hav : ActV (Imm D g ms ml av) w x.f a) (hby : ByF (Imm D g ms ml av) w x.a x.n x.c a.data)
    (ht : TabAt (fun q => Imm D g ms ml av q ∨ (w.heap.size ≤ q ∧ q < w1.heap.size)) w1 ms (a.run s.seen)) (hf : Frm (fun q => q = ms) w w1)
    (hown : w2.ownsRow 0 117 3 v' (H.length + 1) (rawA H ++ x.cells)) (hg : (w1.alloc o).grownBy w2 av.ownBlock) (hat : v'.ownBlock = av.ownBlock ∨ v'.ownBlock = some (w1.alloc o).heap.size) :
    DiskIn (grow D w (w2.setCell ⟨g, 7, none⟩ v')) (w2.setCell ⟨g, 7, none⟩ v') g { s with seen := a.run s.seen, acts := s.acts ++ [a] } ms ml v' (H ++ [x]) ∧ Frm D w (w2.setCell ⟨g, 7, none⟩ v') := by
  have hgl := h.lt g h.dg
  have hmsl := h.lt ms h.dms
  have hmll := h.lt ml h.dml
  have hgm := h.gms
  have havn := h.avne
  have z1 := hf.size
  have z2 : w1.heap.size + 1 ≤ w2.heap.size := by have := hg.size; simpa using this
  have z3 : (w2.setCell ⟨g, 7, none⟩ v').heap.size = w2.heap.size := by simp [World.setCell]
  have hal : (w1.alloc o).heap.size = w1.heap.size + 1 := by simp
  rw [hal] at hat
  -- blocks that are neither g, ms nor the acts' row
  have hb : ∀ q, q < w.heap.size → q ≠ g → q ≠ ms → some q ≠ av.ownBlock → (w2.setCell ⟨g, 7, none⟩ v').heap[q]? = w.heap[q]? := fun q hq h1 h2 h3 => by
    rw [heap_setCell_other w2 _ q v' h1, hg.block q (by rw [hal]; omega) h3, Below.heap_alloc w1 o q (by omega)]
    exact hf.block q hq h2
  have hb1 : ∀ q, q < w1.heap.size → q ≠ g → some q ≠ av.ownBlock → (w2.setCell ⟨g, 7, none⟩ v').heap[q]? = w1.heap[q]? := fun q hq h1 h3 => by
    rw [heap_setCell_other w2 _ q v' h1, hg.block q (by rw [hal]; omega) h3, Below.heap_alloc w1 o q hq]
  have hvg : some g ≠ v'.ownBlock := by
    rcases hat with e | e
    · rw [e]; exact h.gav
    rw [e]; intro e; injection e with e; omega
  have hvq : ∀ q, q < w1.heap.size → some q ≠ av.ownBlock → some q ≠ v'.ownBlock := fun q hq h1 => by
    rcases hat with e | e
    · rw [e]; exact h1
    rw [e]; intro e; injection e with e; omega
  have hI : ∀ q, Imm D g ms ml av q → q < w.heap.size → Imm (grow D w (w2.setCell ⟨g, 7, none⟩ v')) g ms ml v' q ∧ (w2.setCell ⟨g, 7, none⟩ v').heap[q]? = w.heap[q]? := fun q hq hl =>
    ⟨⟨.inl hq.1, hq.2.1, hq.2.2.1, hq.2.2.2.1, hvq q (by omega) hq.2.2.2.2⟩, hb q hl hq.2.1 hq.2.2.1 hq.2.2.2.2⟩
  have havl : ∀ q, av.ownBlock = some q → q < w.heap.size := fun q hq => h.lt q (h.dav q hq)
  refine ⟨⟨?_, ?_, ?_, ?_, ?_, .inl h.dg, .inl h.dms, .inl h.dml, ?_, h.ne, hvg, grow.lt h.lt (by omega)⟩, ?_⟩
  · have := heap_setCell_same w2 g 7 _ _ v' ((hg.block g (by rw [hal]; omega) h.gav).trans ((Below.heap_alloc w1 o g (by omega)).trans ((hf.block g hgl (fun e => hgm.1 e)).trans h.obj)))
    rw [this]; rfl
  · refine ht.keep (hb1 ms (by omega) (fun e => hgm.1 e.symm) havn.1) fun q hq hl => ?_
    rcases hq with hq | hq
    · have hql := h.lt q hq.1
      exact ⟨⟨.inl hq.1, hq.2.1, hq.2.2.1, hq.2.2.2.1, hvq q (by omega) hq.2.2.2.2⟩, hb1 q hl hq.2.1 hq.2.2.2.2⟩
    have hne : some q ≠ av.ownBlock := fun e => by have := havl q e.symm; omega
    exact ⟨⟨.inr ⟨hq.1, by omega⟩, by omega, by omega, by omega, hvq q hl hne⟩, hb1 q hl (by omega) hne⟩
  · exact h.last.keep (hb ml hmll (fun e => hgm.2 e.symm) (fun e => h.ne e.symm) havn.2) hI
  · have hlen : (H ++ [x]).length = H.length + 1 := by simp
    rw [hlen, rawA_append]
    have e : rawA [x] = x.cells := by simp [rawA]
    rw [e]
    exact own_keep hown fun q hq => heap_setCell_other w2 _ q v' (fun e => hvg (by rw [hq]; exact congrArg some e.symm))
  · exact AcF.snoc (hav.keep hI) (hby.keep hI) (h.acts.keep hI)
  · intro b hb'
    rcases hat with e | e
    · exact .inl (h.dav b (by rw [← e]; exact hb'))
    have h2 := (own_cells hown hb').1
    rw [e] at hb'; injection hb' with hb'
    exact .inr ⟨by omega, by omega⟩
  refine ⟨?_, ?_, ?_, by omega, fun q hq hn => hb q hq (fun e => hn (by rw [e]; exact h.dg)) (fun e => hn (by rw [e]; exact h.dms)) (fun e => hn (h.dav q e.symm))⟩
  · show w2.os = _; exact hg.os.trans hf.os
  · show w2.tape = _; exact hg.tape.trans hf.tape
  show w2.output = _; exact hg.output.trans hf.output
theorem DiskIn.setLeft {D : Nat → Prop} {w : World} {g : Nat} {s : DS} {ms ml : Nat} {av : Value} {H : List AcH} (h : DiskIn D w g s ms ml av H) (x : Int) : DiskIn D (w.setCell ⟨g, 1, none⟩ (.int .i64 x)) g { s with left := x } ms ml av H ∧ Frm D w (w.setCell ⟨g, 1, none⟩ (.int .i64 x)) := by
  have hz : (w.setCell ⟨g, 1, none⟩ (.int .i64 x)).heap.size = w.heap.size := by simp [World.setCell]
  have hb : ∀ q, q ≠ g → (w.setCell ⟨g, 1, none⟩ (.int .i64 x)).heap[q]? = w.heap[q]? := fun q hq => heap_setCell_other w _ q _ hq
  have hI : ∀ q, Imm D g ms ml av q → q < w.heap.size → Imm D g ms ml av q ∧ (w.setCell ⟨g, 1, none⟩ (.int .i64 x)).heap[q]? = w.heap[q]? := fun q hq _ => ⟨hq, hb q hq.2.1⟩
  have hgm := h.gms
  refine ⟨⟨?_, h.seen.keep (hb ms (fun e => hgm.1 e.symm)) hI, h.last.keep (hb ml (fun e => hgm.2 e.symm)) hI, own_keep h.row fun q hq => hb q (fun e => h.gav (by rw [hq, e])), h.acts.keep hI, h.dg, h.dms, h.dml, h.dav, h.ne, h.gav, fun q hq => by rw [hz]; exact h.lt q hq⟩,
    rfl, rfl, rfl, by omega, fun q _ hn => hb q (fun e => hn (by rw [e]; exact h.dg))⟩
  have := heap_setCell_same w g 1 _ _ (.int .i64 x) h.obj
  rw [this]; rfl

theorem grow.trans2 {D : Nat → Prop} {a b b' c : World} (h1 : a.heap.size ≤ b'.heap.size) (h2 : b.heap.size ≤ c.heap.size) : ∀ q, grow (grow D a b) b' c q → grow D a c q := by
  intro q hq
  rcases hq with (hq | hq) | hq
  · exact .inl hq
  · exact .inr ⟨hq.1, by omega⟩
  exact .inr ⟨by omega, hq.2⟩
theorem grow.size {D : Nat → Prop} {a b c : World} (h2 : b.heap.size ≤ c.heap.size) : ∀ q, grow D a b q → grow D a c q := by
  intro q hq
  rcases hq with hq | hq
  · exact .inl hq
  exact .inr ⟨hq.1, by omega⟩
/-- What do leaves. -/
def DoPost (D : Nat → Prop) (g : Nat) (r : Int × DS) (w : World) (e : Ending) (w' : World) : Prop := e = .returned (.int .i64 r.1) ∧ DiskAt (grow D w w') w' g r.2 ∧ Frm D w w'
theorem own_slice2 {w : World} {B : Nat} {e : TypeId} {size : Nat} {v : Value} {n : Nat} {xs : List Value} (h : w.ownsRow B e size v n xs) : ∃ a c, v = .slice a n c := by
  rcases h.2 with ⟨rfl, rfl⟩ | ⟨g, cap, cur, rfl, -⟩
  · exact ⟨_, _, rfl⟩
  exact ⟨_, _, rfl⟩

set_option maxRecDepth 100000 in
set_option maxHeartbeats 4000000 in
theorem do_write {D : Nat → Prop} {w : World} {g : Nat} {s : DS} {ms ml : Nat} {av : Value} {H : List AcH} (h : DiskIn D w g s ms ml av H) (hok : s.Ok) (ho : s.off = false) (hcount : s.acts.length < 1000000000000) (n : Nm) (kk : Nat) (bb : By) (hfit : (ActS.write n kk bb).Fits s.seen) (hroom : (((ActS.write n kk bb).data.length : Nat) : Int) ≤ s.room - s.used)
    {fv : Value} {da : Option Addr} {dn dc : Nat} (hav : ActV (Imm D g ms ml av) w fv (ActS.write n kk bb)) (hby : ByF (Imm D g ms ml av) w da dn dc (ActS.write n kk bb).data) :
    Calls Tryz.prog 111 #[.pointer (some ⟨g, 0, none⟩), .slice da dn dc, fv] w (DoPost D g (s.does (ActS.write n kk bb)) w) := by
  obtain ⟨-, -, -, -, -, c5, -, c7, hfz, hgl⟩ := h.cells
  have hlen := h.acts.len
  have hdn := hby.1
  have hd40 : dn ≤ 140737488351232 := hby.2.2.1.2
  obtain ⟨hr1, hTl, hTt, -, -⟩ := hok.run
  have hbl : dn ≤ 16777216 := by have := hok.used; have := hok.room1; omega
  have HAV := hid hav
  obtain ⟨p, q, rfl, hFp, hFq, hp, hq⟩ := hav
  have hgm := h.gms
  have havn := h.avne
  have hgav := h.gav
  have hmsl := h.lt ms h.dms
  obtain ⟨a, c, rfl, hHc, hac⟩ := h.av_form
  have hml : ¬ Imm D g ms ml (.slice a H.length c) ms := fun e => e.2.2.1 rfl
  have hl0 := hok.left0
  have hl1 := hok.left1
  have hok1 := hok.add ho hfit hroom
  have HOK1 := hid hok1
  have HI := hid h
  have HS := hid h.seen
  have HFML := hid hml
  have HFIT := hid hfit
  have HB := hid hby
  have HP := hid hp
  have HQ := hid hq
  have HDN := hid hdn
  have HLEN := hid hlen
  obtain ⟨r, hr⟩ : ∃ r, r = s.does (ActS.write n kk bb) := ⟨_, rfl⟩
  rw [← hr]
  have HR := hid hr
  obtain ⟨ti, tz, hi, hz, hz1, hz2, hz3⟩ := info_act2
  have hcell0 : w.frozen? ⟨g, 7, none⟩ = false := hfz 7
  have HZ := hid hfz
  have hHb : H.length < 1000000000000 := by omega
  have hbb : (ActS.write n kk bb).data.length ≤ 16777216 := by omega
  clear h hok1 hml hfit hby hp hq hdn hlen hr hr1 hfz hok hroom ho hHc hac hFp hFq
  go_enter Tryz.func111, Tryz.ntmps111
  go_wp2_with fail
  refine Calls.mono (Write1_any HS.out HFML.out HFIT.out hTl hTt HB.out hbb HP.out HQ.out) ?_
  rintro e w1 ⟨rfl, ht1, hf1⟩
  have z1 := hf1.size
  have c7' := (hf1.cell (p := ⟨g, 7, none⟩) hgl (fun e => hgm.1 e)).trans c7
  have hg1 : g < w1.heap.size := by omega
  have hrow1 : (w1.alloc (.cells #[.func (.func 121) #[] #[.pointer (some ⟨p, 0, none⟩), .pointer (some ⟨q, 0, none⟩)], .slice da dn dc, .int .i64 (dn : Int)] 117)).ownsRow 0 117 3 (.slice a H.length c) H.length (rawA H) := (own_keep HI.out.row fun q hq => by
    have hql := HI.out.lt q (HI.out.dav q hq)
    exact hf1.block q hql (fun e => havn.1 (by rw [← e]; exact hq.symm))).alloc _
  have hnews : ∀ j u, (AcH.cells ⟨.func (.func 121) #[] #[.pointer (some ⟨p, 0, none⟩), .pointer (some ⟨q, 0, none⟩)], da, dn, dc⟩)[j]? = some u → (w1.alloc (.cells #[.func (.func 121) #[] #[.pointer (some ⟨p, 0, none⟩), .pointer (some ⟨q, 0, none⟩)], .slice da dn dc, .int .i64 (dn : Int)] 117)).cell? ((⟨w1.heap.size, 0, none⟩ : Addr).add j) = some u := by
    intro j u hj
    rw [add_lit, Nat.zero_add, cell_of_row _ w1.heap.size j _ _ (0, 0) (heap_alloc_new w1 _)]
    simpa [AcH.cells] using hj
  have hone : ∀ u ∈ AcH.cells ⟨.func (.func 121) #[] #[.pointer (some ⟨p, 0, none⟩), .pointer (some ⟨q, 0, none⟩)], da, dn, dc⟩, u.oneCell' = true := by
    intro u hu
    simp only [AcH.cells, List.mem_cons, List.not_mem_nil, or_false] at hu
    rcases hu with rfl | rfl | rfl <;> rfl
  have HR1 := hid hrow1
  have HN := hid hnews
  have HO := hid hone
  have HT1 := hid ht1
  have HF1 := hid hf1
  clear hrow1 hnews hone ht1 hf1
  go_wp2_with (at_builtin; refine wpList_append_own_at _ rfl (.tmp 18) (.tmp 24) _ rfl 0 117 ti tz 3 40 Tryz.underlying74 hi hz hz1 hz2 hz3 (by decide) _ H.length (rawA H) rfl HR1.out ⟨w1.heap.size, 0, none⟩ 1 1 (AcH.cells ⟨.func (.func 121) #[] #[.pointer (some ⟨p, 0, none⟩), .pointer (some ⟨q, 0, none⟩)], da, dn, dc⟩) rfl rfl HN.out HO.out (by unfold maxLen; omega) (by omega) (by omega) ?_; intro v2 w2 hown2 hgrow2 hnil2 hat2; obtain ⟨a2, c2, rfl⟩ := own_slice2 hown2; have hmid := do_mid HI.out (x := ⟨.func (.func 121) #[] #[.pointer (some ⟨p, 0, none⟩), .pointer (some ⟨q, 0, none⟩)], da, dn, dc⟩) HAV.out HB.out HT1.out HF1.out hown2 hgrow2 hat2; have HM := hid hmid; have d7 : w2.cell? ⟨g, 7, none⟩ = some (.slice a H.length c) := (World.cell?_of_block (w := w1.alloc (.cells #[.func (.func 121) #[] #[.pointer (some ⟨p, 0, none⟩), .pointer (some ⟨q, 0, none⟩)], .slice da dn dc, .int .i64 (dn : Int)] 117)) (hgrow2.block g (by simp; omega) hgav)).trans (((ext_alloc w1 _).cell (p := ⟨g, 7, none⟩) hg1).trans c7'); have e7 : w2.frozen? ⟨g, 7, none⟩ = false := (World.frozen?_of_block (w := w1.alloc (.cells #[.func (.func 121) #[] #[.pointer (some ⟨p, 0, none⟩), .pointer (some ⟨q, 0, none⟩)], .slice da dn dc, .int .i64 (dn : Int)] 117)) (hgrow2.block g (by simp; omega) hgav)).trans (((ext_alloc w1 _).frozen (p := ⟨g, 7, none⟩) hg1).trans ((HF1.out.frozen (p := ⟨g, 7, none⟩) hgl (fun e => hgm.1 e)).trans hcell0)); have hg2 : g < w2.heap.size := (by have := hgrow2.size; simp at this; omega); clear hown2 hgrow2 hnil2 hat2 hmid)
  obtain ⟨hD3, hFr3⟩ := HM.out
  obtain ⟨w3, hw3⟩ : ∃ w3, w3 = w2.setCell ⟨g, 7, none⟩ (.slice a2 (H.length + 1) c2) := ⟨_, rfl⟩
  rw [← hw3] at hD3 hFr3 ⊢
  obtain ⟨-, q1, q2, q3, -, -, -, -, qf, qg⟩ := hD3.cells
  dsimp only at q1 q2 q3
  have qf1 := qf 1
  have HD3 := hid hD3
  have HFR3 := hid hFr3
  clear hD3 hFr3 hw3 HM qf d7 e7 hg2
  by_cases hl : s.left = 0
  · rw [hl] at q1
    have hrr : r = (0, { s with seen := (ActS.write n kk bb).run s.seen, acts := s.acts ++ [(ActS.write n kk bb)] }) := by rw [HR.out]; simp [DS.does, DS.hit, hl]
    subst hrr
    refine Calls.mono (struck_0 q1) ?_
    rintro e w' ⟨rfl, rfl⟩
    go_wp2
    go_ret
    exact ⟨rfl, ⟨_, _, _, _, HD3.out⟩, HFR3.out⟩
  obtain ⟨hD4, hFr4⟩ := HD3.out.setLeft (s.left - 1)
  refine Calls.mono (struck_n q1 qf1 hl hl0 hl1) ?_
  rintro e w4 ⟨rfl, hw4⟩
  rw [← hw4] at hD4 hFr4
  have hok2 := HOK1.out.left hl
  dsimp only at hok2 hD4
  by_cases h1 : s.left = 1
  · have hrr : r = (22, DS.fall { s with seen := (ActS.write n kk bb).run s.seen, acts := s.acts ++ [(ActS.write n kk bb)], left := s.left - 1 } s.keep s.tear) := by rw [HR.out]; simp [DS.does, DS.hit, hl, h1]
    subst hrr
    have hd1 : decide (s.left = 1) = true := by simpa using h1
    rw [hd1]
    obtain ⟨-, -, p2, p3, -, -, -, -, -, pg⟩ := hD4.cells
    dsimp only at p2 p3
    have HD4 := hid (hD4.below (ext_drew w4))
    have HFR4 := hid ((hFr4.more (E := grow D w w3) fun q hq => hq).then_ext (ext_drew w4))
    have HOK2 := hid hok2
    have hkk := hok2.k64
    have htt := hok2.t64
    dsimp only at hkk htt
    have HKK := hid hkk
    have HTT := hid htt
    have hcc : (s.acts ++ [(ActS.write n kk bb)]).length ≤ 1000000000000 := by simp; omega
    have HCC := hid hcc
    have hzz : w4.heap.size = w3.heap.size := by rw [hw4]; simp [World.setCell]
    clear hD4 hFr4 hw4 hok2 q1 q2 q3 qf1 hd1 hkk htt hcc
    go_wp2_with fail
    have HZ4 := hid (show w4.heap.size = w3.heap.size from hzz)
    clear hzz
    go_still_tail 11, (by kernel_rfl)
    change wpList _ _ _ _ _ w4.drew
    go_wp2_with (go_at_call 54; refine Calls.mono (fall_in HD4.out HOK2.out HCC.out s.keep s.tear HKK.out HTT.out) ?_; rintro e w5 ⟨rfl, hd5, hf5⟩; have HD5 := hid hd5; have HF5 := hid hf5; clear hd5 hf5)
    go_ret
    have z3 := HFR3.out.size
    have z4 : w4.drew.heap.size = w3.heap.size := HZ4.out
    have z5 := HF5.out.size
    exact ⟨rfl, HD5.out.more (grow.trans2 (by omega) (by omega)) (grow.lt HI.out.lt (by omega)), (HFR3.out.grow HFR4.out).trans HF5.out fun q hq => by rcases hq with hq | hq; exact .inl hq; exact .inr hq.1⟩
  have hrr : r = (0, { s with seen := (ActS.write n kk bb).run s.seen, acts := s.acts ++ [(ActS.write n kk bb)], left := s.left - 1 }) := by rw [HR.out]; simp [DS.does, DS.hit, hl, h1]
  subst hrr
  have hd1 : decide (s.left = 1) = false := by simpa using h1
  rw [hd1]
  have HD4 := hid hD4
  have HFR4 := hid hFr4
  clear hD4 hFr4 hok2 hd1
  have HW4 := hid hw4
  clear hw4
  go_wp2
  go_ret
  refine ⟨rfl, ?_, HFR3.out.grow HFR4.out⟩
  have z3 := HFR3.out.size
  have hzz : w4.heap.size = w3.heap.size := by rw [HW4.out]; simp [World.setCell]
  exact DiskAt.more ⟨_, _, _, _, HD4.out⟩ (grow.size (by omega)) (grow.lt HI.out.lt (by omega))

set_option maxRecDepth 100000 in
set_option maxHeartbeats 4000000 in
theorem do_trim {D : Nat → Prop} {w : World} {g : Nat} {s : DS} {ms ml : Nat} {av : Value} {H : List AcH} (h : DiskIn D w g s ms ml av H) (hok : s.Ok) (ho : s.off = false) (hcount : s.acts.length < 1000000000000) (n : Nm) (kk : Nat) (hfit : (ActS.trim n kk).Fits s.seen) (hroom : (((ActS.trim n kk).data.length : Nat) : Int) ≤ s.room - s.used)
    {fv : Value} {da : Option Addr} {dn dc : Nat} (hav : ActV (Imm D g ms ml av) w fv (ActS.trim n kk)) (hby : ByF (Imm D g ms ml av) w da dn dc (ActS.trim n kk).data) :
    Calls Tryz.prog 111 #[.pointer (some ⟨g, 0, none⟩), .slice da dn dc, fv] w (DoPost D g (s.does (ActS.trim n kk)) w) := by
  obtain ⟨-, -, -, -, -, c5, -, c7, hfz, hgl⟩ := h.cells
  have hlen := h.acts.len
  have hdn := hby.1
  have hd40 : dn ≤ 140737488351232 := hby.2.2.1.2
  obtain ⟨hr1, hTl, hTt, -, -⟩ := hok.run
  have hbl : dn ≤ 16777216 := by have := hok.used; have := hok.room1; omega
  have HAV := hid hav
  obtain ⟨p, q, rfl, hFp, hFq, hp, hq⟩ := hav
  have hgm := h.gms
  have havn := h.avne
  have hgav := h.gav
  have hmsl := h.lt ms h.dms
  obtain ⟨a, c, rfl, hHc, hac⟩ := h.av_form
  have hml : ¬ Imm D g ms ml (.slice a H.length c) ms := fun e => e.2.2.1 rfl
  have hl0 := hok.left0
  have hl1 := hok.left1
  have hok1 := hok.add ho hfit hroom
  have HOK1 := hid hok1
  have HI := hid h
  have HS := hid h.seen
  have HFML := hid hml
  have HFIT := hid hfit
  have HB := hid hby
  have HP := hid hp
  have HQ := hid hq
  have HDN := hid hdn
  have HLEN := hid hlen
  obtain ⟨r, hr⟩ : ∃ r, r = s.does (ActS.trim n kk) := ⟨_, rfl⟩
  rw [← hr]
  have HR := hid hr
  obtain ⟨ti, tz, hi, hz, hz1, hz2, hz3⟩ := info_act2
  have hcell0 : w.frozen? ⟨g, 7, none⟩ = false := hfz 7
  have HZ := hid hfz
  have hHb : H.length < 1000000000000 := by omega
  have hbb : (ActS.trim n kk).data.length ≤ 16777216 := by omega
  clear h hok1 hml hfit hby hp hq hdn hlen hr hr1 hfz hok hroom ho hHc hac hFp hFq
  go_enter Tryz.func111, Tryz.ntmps111
  go_wp2_with fail
  refine Calls.mono (Trim1_any HS.out HFML.out HFIT.out hTl hTt HP.out HQ.out) ?_
  rintro e w1 ⟨rfl, ht1, hf1⟩
  have z1 := hf1.size
  have c7' := (hf1.cell (p := ⟨g, 7, none⟩) hgl (fun e => hgm.1 e)).trans c7
  have hg1 : g < w1.heap.size := by omega
  have hrow1 : (w1.alloc (.cells #[.func (.func 113) #[] #[.pointer (some ⟨p, 0, none⟩), .pointer (some ⟨q, 0, none⟩)], .slice da dn dc, .int .i64 (dn : Int)] 117)).ownsRow 0 117 3 (.slice a H.length c) H.length (rawA H) := (own_keep HI.out.row fun q hq => by
    have hql := HI.out.lt q (HI.out.dav q hq)
    exact hf1.block q hql (fun e => havn.1 (by rw [← e]; exact hq.symm))).alloc _
  have hnews : ∀ j u, (AcH.cells ⟨.func (.func 113) #[] #[.pointer (some ⟨p, 0, none⟩), .pointer (some ⟨q, 0, none⟩)], da, dn, dc⟩)[j]? = some u → (w1.alloc (.cells #[.func (.func 113) #[] #[.pointer (some ⟨p, 0, none⟩), .pointer (some ⟨q, 0, none⟩)], .slice da dn dc, .int .i64 (dn : Int)] 117)).cell? ((⟨w1.heap.size, 0, none⟩ : Addr).add j) = some u := by
    intro j u hj
    rw [add_lit, Nat.zero_add, cell_of_row _ w1.heap.size j _ _ (0, 0) (heap_alloc_new w1 _)]
    simpa [AcH.cells] using hj
  have hone : ∀ u ∈ AcH.cells ⟨.func (.func 113) #[] #[.pointer (some ⟨p, 0, none⟩), .pointer (some ⟨q, 0, none⟩)], da, dn, dc⟩, u.oneCell' = true := by
    intro u hu
    simp only [AcH.cells, List.mem_cons, List.not_mem_nil, or_false] at hu
    rcases hu with rfl | rfl | rfl <;> rfl
  have HR1 := hid hrow1
  have HN := hid hnews
  have HO := hid hone
  have HT1 := hid ht1
  have HF1 := hid hf1
  clear hrow1 hnews hone ht1 hf1
  go_wp2_with (at_builtin; refine wpList_append_own_at _ rfl (.tmp 18) (.tmp 24) _ rfl 0 117 ti tz 3 40 Tryz.underlying74 hi hz hz1 hz2 hz3 (by decide) _ H.length (rawA H) rfl HR1.out ⟨w1.heap.size, 0, none⟩ 1 1 (AcH.cells ⟨.func (.func 113) #[] #[.pointer (some ⟨p, 0, none⟩), .pointer (some ⟨q, 0, none⟩)], da, dn, dc⟩) rfl rfl HN.out HO.out (by unfold maxLen; omega) (by omega) (by omega) ?_; intro v2 w2 hown2 hgrow2 hnil2 hat2; obtain ⟨a2, c2, rfl⟩ := own_slice2 hown2; have hmid := do_mid HI.out (x := ⟨.func (.func 113) #[] #[.pointer (some ⟨p, 0, none⟩), .pointer (some ⟨q, 0, none⟩)], da, dn, dc⟩) HAV.out HB.out HT1.out HF1.out hown2 hgrow2 hat2; have HM := hid hmid; have d7 : w2.cell? ⟨g, 7, none⟩ = some (.slice a H.length c) := (World.cell?_of_block (w := w1.alloc (.cells #[.func (.func 113) #[] #[.pointer (some ⟨p, 0, none⟩), .pointer (some ⟨q, 0, none⟩)], .slice da dn dc, .int .i64 (dn : Int)] 117)) (hgrow2.block g (by simp; omega) hgav)).trans (((ext_alloc w1 _).cell (p := ⟨g, 7, none⟩) hg1).trans c7'); have e7 : w2.frozen? ⟨g, 7, none⟩ = false := (World.frozen?_of_block (w := w1.alloc (.cells #[.func (.func 113) #[] #[.pointer (some ⟨p, 0, none⟩), .pointer (some ⟨q, 0, none⟩)], .slice da dn dc, .int .i64 (dn : Int)] 117)) (hgrow2.block g (by simp; omega) hgav)).trans (((ext_alloc w1 _).frozen (p := ⟨g, 7, none⟩) hg1).trans ((HF1.out.frozen (p := ⟨g, 7, none⟩) hgl (fun e => hgm.1 e)).trans hcell0)); have hg2 : g < w2.heap.size := (by have := hgrow2.size; simp at this; omega); clear hown2 hgrow2 hnil2 hat2 hmid)
  obtain ⟨hD3, hFr3⟩ := HM.out
  obtain ⟨w3, hw3⟩ : ∃ w3, w3 = w2.setCell ⟨g, 7, none⟩ (.slice a2 (H.length + 1) c2) := ⟨_, rfl⟩
  rw [← hw3] at hD3 hFr3 ⊢
  obtain ⟨-, q1, q2, q3, -, -, -, -, qf, qg⟩ := hD3.cells
  dsimp only at q1 q2 q3
  have qf1 := qf 1
  have HD3 := hid hD3
  have HFR3 := hid hFr3
  clear hD3 hFr3 hw3 HM qf d7 e7 hg2
  by_cases hl : s.left = 0
  · rw [hl] at q1
    have hrr : r = (0, { s with seen := (ActS.trim n kk).run s.seen, acts := s.acts ++ [(ActS.trim n kk)] }) := by rw [HR.out]; simp [DS.does, DS.hit, hl]
    subst hrr
    refine Calls.mono (struck_0 q1) ?_
    rintro e w' ⟨rfl, rfl⟩
    go_wp2
    go_ret
    exact ⟨rfl, ⟨_, _, _, _, HD3.out⟩, HFR3.out⟩
  · obtain ⟨hD4, hFr4⟩ := HD3.out.setLeft (s.left - 1)
    refine Calls.mono (struck_n q1 qf1 hl hl0 hl1) ?_
    rintro e w4 ⟨rfl, hw4⟩
    rw [← hw4] at hD4 hFr4
    have hok2 := HOK1.out.left hl
    dsimp only at hok2 hD4
    by_cases h1 : s.left = 1
    · have hrr : r = (22, DS.fall { s with seen := (ActS.trim n kk).run s.seen, acts := s.acts ++ [(ActS.trim n kk)], left := s.left - 1 } s.keep s.tear) := by rw [HR.out]; simp [DS.does, DS.hit, hl, h1]
      subst hrr
      have hd1 : decide (s.left = 1) = true := by simpa using h1
      rw [hd1]
      obtain ⟨-, -, p2, p3, -, -, -, -, -, pg⟩ := hD4.cells
      dsimp only at p2 p3
      have HD4 := hid (hD4.below (ext_drew w4))
      have HFR4 := hid ((hFr4.more (E := grow D w w3) fun q hq => hq).then_ext (ext_drew w4))
      have HOK2 := hid hok2
      have hkk := hok2.k64
      have htt := hok2.t64
      dsimp only at hkk htt
      have HKK := hid hkk
      have HTT := hid htt
      have hcc : (s.acts ++ [(ActS.trim n kk)]).length ≤ 1000000000000 := by simp; omega
      have HCC := hid hcc
      have hzz : w4.heap.size = w3.heap.size := by rw [hw4]; simp [World.setCell]
      clear hD4 hFr4 hw4 hok2 q1 q2 q3 qf1 hd1 hkk htt hcc
      go_wp2_with fail
      have HZ4 := hid (show w4.heap.size = w3.heap.size from hzz)
      clear hzz
      go_still_tail 11, (by kernel_rfl)
      change wpList _ _ _ _ _ w4.drew
      go_wp2_with (go_at_call 54; refine Calls.mono (fall_in HD4.out HOK2.out HCC.out s.keep s.tear HKK.out HTT.out) ?_; rintro e w5 ⟨rfl, hd5, hf5⟩; have HD5 := hid hd5; have HF5 := hid hf5; clear hd5 hf5)
      go_ret
      have z3 := HFR3.out.size
      have z4 : w4.drew.heap.size = w3.heap.size := HZ4.out
      have z5 := HF5.out.size
      exact ⟨rfl, HD5.out.more (grow.trans2 (by omega) (by omega)) (grow.lt HI.out.lt (by omega)), (HFR3.out.grow HFR4.out).trans HF5.out fun q hq => by rcases hq with hq | hq; exact .inl hq; exact .inr hq.1⟩
    · have hrr : r = (0, { s with seen := (ActS.trim n kk).run s.seen, acts := s.acts ++ [(ActS.trim n kk)], left := s.left - 1 }) := by rw [HR.out]; simp [DS.does, DS.hit, hl, h1]
      subst hrr
      have hd1 : decide (s.left = 1) = false := by simpa using h1
      rw [hd1]
      have HD4 := hid hD4
      have HFR4 := hid hFr4
      clear hD4 hFr4 hok2 hd1
      have HW4 := hid hw4
      clear hw4
      go_wp2
      go_ret
      refine ⟨rfl, ?_, HFR3.out.grow HFR4.out⟩
      have z3 := HFR3.out.size
      have hzz : w4.heap.size = w3.heap.size := by rw [HW4.out]; simp [World.setCell]
      exact DiskAt.more ⟨_, _, _, _, HD4.out⟩ (grow.size (by omega)) (grow.lt HI.out.lt (by omega))

set_option maxRecDepth 100000 in
set_option maxHeartbeats 4000000 in
theorem do_drop {D : Nat → Prop} {w : World} {g : Nat} {s : DS} {ms ml : Nat} {av : Value} {H : List AcH} (h : DiskIn D w g s ms ml av H) (hok : s.Ok) (ho : s.off = false) (hcount : s.acts.length < 1000000000000) (n : Nm) (hfit : (ActS.drop n).Fits s.seen) (hroom : (((ActS.drop n).data.length : Nat) : Int) ≤ s.room - s.used)
    {fv : Value} {da : Option Addr} {dn dc : Nat} (hav : ActV (Imm D g ms ml av) w fv (ActS.drop n)) (hby : ByF (Imm D g ms ml av) w da dn dc (ActS.drop n).data) :
    Calls Tryz.prog 111 #[.pointer (some ⟨g, 0, none⟩), .slice da dn dc, fv] w (DoPost D g (s.does (ActS.drop n)) w) := by
  obtain ⟨-, -, -, -, -, c5, -, c7, hfz, hgl⟩ := h.cells
  have hlen := h.acts.len
  have hdn := hby.1
  have hd40 : dn ≤ 140737488351232 := hby.2.2.1.2
  obtain ⟨hr1, hTl, hTt, -, -⟩ := hok.run
  have hbl : dn ≤ 16777216 := by have := hok.used; have := hok.room1; omega
  have HAV := hid hav
  obtain ⟨p, rfl, hFp, hp⟩ := hav
  have hgm := h.gms
  have havn := h.avne
  have hgav := h.gav
  have hmsl := h.lt ms h.dms
  obtain ⟨a, c, rfl, hHc, hac⟩ := h.av_form
  have hml : ¬ Imm D g ms ml (.slice a H.length c) ms := fun e => e.2.2.1 rfl
  have hl0 := hok.left0
  have hl1 := hok.left1
  have hok1 := hok.add ho hfit hroom
  have HOK1 := hid hok1
  have HI := hid h
  have HS := hid h.seen
  have HFML := hid hml
  have HFIT := hid hfit
  have HB := hid hby
  have HP := hid hp
  have HDN := hid hdn
  have HLEN := hid hlen
  obtain ⟨r, hr⟩ : ∃ r, r = s.does (ActS.drop n) := ⟨_, rfl⟩
  rw [← hr]
  have HR := hid hr
  obtain ⟨ti, tz, hi, hz, hz1, hz2, hz3⟩ := info_act2
  have hcell0 : w.frozen? ⟨g, 7, none⟩ = false := hfz 7
  have HZ := hid hfz
  have hHb : H.length < 1000000000000 := by omega
  have hbb : (ActS.drop n).data.length ≤ 16777216 := by omega
  clear h hok1 hml hfit hby hp  hdn hlen hr hr1 hfz hok hroom ho hHc hac hFp
  go_enter Tryz.func111, Tryz.ntmps111
  go_wp2_with fail
  refine Calls.mono (Drop1_any HS.out HFML.out HFIT.out HP.out) ?_
  rintro e w1 ⟨rfl, ht1, hf1⟩
  have z1 := hf1.size
  have c7' := (hf1.cell (p := ⟨g, 7, none⟩) hgl (fun e => hgm.1 e)).trans c7
  have hg1 : g < w1.heap.size := by omega
  have hrow1 : (w1.alloc (.cells #[.func (.func 112) #[] #[.pointer (some ⟨p, 0, none⟩)], .slice da dn dc, .int .i64 (dn : Int)] 117)).ownsRow 0 117 3 (.slice a H.length c) H.length (rawA H) := (own_keep HI.out.row fun q hq => by
    have hql := HI.out.lt q (HI.out.dav q hq)
    exact hf1.block q hql (fun e => havn.1 (by rw [← e]; exact hq.symm))).alloc _
  have hnews : ∀ j u, (AcH.cells ⟨.func (.func 112) #[] #[.pointer (some ⟨p, 0, none⟩)], da, dn, dc⟩)[j]? = some u → (w1.alloc (.cells #[.func (.func 112) #[] #[.pointer (some ⟨p, 0, none⟩)], .slice da dn dc, .int .i64 (dn : Int)] 117)).cell? ((⟨w1.heap.size, 0, none⟩ : Addr).add j) = some u := by
    intro j u hj
    rw [add_lit, Nat.zero_add, cell_of_row _ w1.heap.size j _ _ (0, 0) (heap_alloc_new w1 _)]
    simpa [AcH.cells] using hj
  have hone : ∀ u ∈ AcH.cells ⟨.func (.func 112) #[] #[.pointer (some ⟨p, 0, none⟩)], da, dn, dc⟩, u.oneCell' = true := by
    intro u hu
    simp only [AcH.cells, List.mem_cons, List.not_mem_nil, or_false] at hu
    rcases hu with rfl | rfl | rfl <;> rfl
  have HR1 := hid hrow1
  have HN := hid hnews
  have HO := hid hone
  have HT1 := hid ht1
  have HF1 := hid hf1
  clear hrow1 hnews hone ht1 hf1
  go_wp2_with (at_builtin; refine wpList_append_own_at _ rfl (.tmp 18) (.tmp 24) _ rfl 0 117 ti tz 3 40 Tryz.underlying74 hi hz hz1 hz2 hz3 (by decide) _ H.length (rawA H) rfl HR1.out ⟨w1.heap.size, 0, none⟩ 1 1 (AcH.cells ⟨.func (.func 112) #[] #[.pointer (some ⟨p, 0, none⟩)], da, dn, dc⟩) rfl rfl HN.out HO.out (by unfold maxLen; omega) (by omega) (by omega) ?_; intro v2 w2 hown2 hgrow2 hnil2 hat2; obtain ⟨a2, c2, rfl⟩ := own_slice2 hown2; have hmid := do_mid HI.out (x := ⟨.func (.func 112) #[] #[.pointer (some ⟨p, 0, none⟩)], da, dn, dc⟩) HAV.out HB.out HT1.out HF1.out hown2 hgrow2 hat2; have HM := hid hmid; have d7 : w2.cell? ⟨g, 7, none⟩ = some (.slice a H.length c) := (World.cell?_of_block (w := w1.alloc (.cells #[.func (.func 112) #[] #[.pointer (some ⟨p, 0, none⟩)], .slice da dn dc, .int .i64 (dn : Int)] 117)) (hgrow2.block g (by simp; omega) hgav)).trans (((ext_alloc w1 _).cell (p := ⟨g, 7, none⟩) hg1).trans c7'); have e7 : w2.frozen? ⟨g, 7, none⟩ = false := (World.frozen?_of_block (w := w1.alloc (.cells #[.func (.func 112) #[] #[.pointer (some ⟨p, 0, none⟩)], .slice da dn dc, .int .i64 (dn : Int)] 117)) (hgrow2.block g (by simp; omega) hgav)).trans (((ext_alloc w1 _).frozen (p := ⟨g, 7, none⟩) hg1).trans ((HF1.out.frozen (p := ⟨g, 7, none⟩) hgl (fun e => hgm.1 e)).trans hcell0)); have hg2 : g < w2.heap.size := (by have := hgrow2.size; simp at this; omega); clear hown2 hgrow2 hnil2 hat2 hmid)
  obtain ⟨hD3, hFr3⟩ := HM.out
  obtain ⟨w3, hw3⟩ : ∃ w3, w3 = w2.setCell ⟨g, 7, none⟩ (.slice a2 (H.length + 1) c2) := ⟨_, rfl⟩
  rw [← hw3] at hD3 hFr3 ⊢
  obtain ⟨-, q1, q2, q3, -, -, -, -, qf, qg⟩ := hD3.cells
  dsimp only at q1 q2 q3
  have qf1 := qf 1
  have HD3 := hid hD3
  have HFR3 := hid hFr3
  clear hD3 hFr3 hw3 HM qf d7 e7 hg2
  by_cases hl : s.left = 0
  · rw [hl] at q1
    have hrr : r = (0, { s with seen := (ActS.drop n).run s.seen, acts := s.acts ++ [(ActS.drop n)] }) := by rw [HR.out]; simp [DS.does, DS.hit, hl]
    subst hrr
    refine Calls.mono (struck_0 q1) ?_
    rintro e w' ⟨rfl, rfl⟩
    go_wp2
    go_ret
    exact ⟨rfl, ⟨_, _, _, _, HD3.out⟩, HFR3.out⟩
  obtain ⟨hD4, hFr4⟩ := HD3.out.setLeft (s.left - 1)
  refine Calls.mono (struck_n q1 qf1 hl hl0 hl1) ?_
  rintro e w4 ⟨rfl, hw4⟩
  rw [← hw4] at hD4 hFr4
  have hok2 := HOK1.out.left hl
  dsimp only at hok2 hD4
  by_cases h1 : s.left = 1
  · have hrr : r = (22, DS.fall { s with seen := (ActS.drop n).run s.seen, acts := s.acts ++ [(ActS.drop n)], left := s.left - 1 } s.keep s.tear) := by rw [HR.out]; simp [DS.does, DS.hit, hl, h1]
    subst hrr
    have hd1 : decide (s.left = 1) = true := by simpa using h1
    rw [hd1]
    obtain ⟨-, -, p2, p3, -, -, -, -, -, pg⟩ := hD4.cells
    dsimp only at p2 p3
    have HD4 := hid (hD4.below (ext_drew w4))
    have HFR4 := hid ((hFr4.more (E := grow D w w3) fun q hq => hq).then_ext (ext_drew w4))
    have HOK2 := hid hok2
    have hkk := hok2.k64
    have htt := hok2.t64
    dsimp only at hkk htt
    have HKK := hid hkk
    have HTT := hid htt
    have hcc : (s.acts ++ [(ActS.drop n)]).length ≤ 1000000000000 := by simp; omega
    have HCC := hid hcc
    have hzz : w4.heap.size = w3.heap.size := by rw [hw4]; simp [World.setCell]
    clear hD4 hFr4 hw4 hok2 q1 q2 q3 qf1 hd1 hkk htt hcc
    go_wp2_with fail
    have HZ4 := hid (show w4.heap.size = w3.heap.size from hzz)
    clear hzz
    go_still_tail 11, (by kernel_rfl)
    change wpList _ _ _ _ _ w4.drew
    go_wp2_with (go_at_call 54; refine Calls.mono (fall_in HD4.out HOK2.out HCC.out s.keep s.tear HKK.out HTT.out) ?_; rintro e w5 ⟨rfl, hd5, hf5⟩; have HD5 := hid hd5; have HF5 := hid hf5; clear hd5 hf5)
    go_ret
    have z3 := HFR3.out.size
    have z4 : w4.drew.heap.size = w3.heap.size := HZ4.out
    have z5 := HF5.out.size
    exact ⟨rfl, HD5.out.more (grow.trans2 (by omega) (by omega)) (grow.lt HI.out.lt (by omega)), (HFR3.out.grow HFR4.out).trans HF5.out fun q hq => by rcases hq with hq | hq; exact .inl hq; exact .inr hq.1⟩
  have hrr : r = (0, { s with seen := (ActS.drop n).run s.seen, acts := s.acts ++ [(ActS.drop n)], left := s.left - 1 }) := by rw [HR.out]; simp [DS.does, DS.hit, hl, h1]
  subst hrr
  have hd1 : decide (s.left = 1) = false := by simpa using h1
  rw [hd1]
  have HD4 := hid hD4
  have HFR4 := hid hFr4
  clear hD4 hFr4 hok2 hd1
  have HW4 := hid hw4
  clear hw4
  go_wp2
  go_ret
  refine ⟨rfl, ?_, HFR3.out.grow HFR4.out⟩
  have z3 := HFR3.out.size
  have hzz : w4.heap.size = w3.heap.size := by rw [HW4.out]; simp [World.setCell]
  exact DiskAt.more ⟨_, _, _, _, HD4.out⟩ (grow.size (by omega)) (grow.lt HI.out.lt (by omega))
end Go.Proofs.YtikjckdoldiddaaGreatDoor
