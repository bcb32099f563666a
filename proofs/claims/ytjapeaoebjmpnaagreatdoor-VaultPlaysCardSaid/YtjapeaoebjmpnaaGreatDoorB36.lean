/- The walk of the reference's add. Printed by gen_rd9.py. -/
import Derived.Test.YtjapeaoebjmpnaaGreatDoorB35
namespace Go.Proofs.YtjapeaoebjmpnaaGreatDoor
open Go.RowKit Go.Maps
set_option linter.unusedVariables false
set_option linter.unusedSimpArgs false
attribute [local go_sem] bmax2 bmin2 bmax_two bmin_two

section
variable {P : Program} {l : List Oper} {Q : Exit → Act → World → Prop} {md : Region.Mode} {S : World → Prop}
theorem held_cons2 {fuel : Nat} {listed : Array Bool} {a : Act} {w : World} {i j : Nat} {o p : Oper} (ho : nthO l i = some o) (hp : nthO l j = some p)
    (h : ∀ K' : Act → World → Prop, Shut (∀ a w, S w → (S w → wpAnyH P md l.toArray Q S fuel (listed.setIfInBounds i true) a w) → K' a w) → if Region.wanted o (yielded l.toArray a.tmps) = true then Oper.wp P o a w K' Q else K' (a.put o.dst undef) w)
    (h2 : ∀ K' : Act → World → Prop, Shut (∀ a w, S w → (S w → wpAnyH P md l.toArray Q S fuel (listed.setIfInBounds j true) a w) → K' a w) → if Region.wanted p (yielded l.toArray a.tmps) = true then Oper.wp P p a w K' Q else K' (a.put p.dst undef) w) :
    AllReadyH P md l.toArray Q S fuel listed a w [i, j] :=
  AllReadyH.cons (by rw [List.getElem?_toArray, nthO_get]; exact ho) h (AllReadyH.cons (by rw [List.getElem?_toArray, nthO_get]; exact hp) h2 AllReadyH.nil)
end
/-- One row behind a row of the call's own: one operation of a region. -/
theorem wp_appRow {w : World} {o : Oper} {a : Act} {K : Act → World → Prop} {Q : Exit → Act → World → Prop} (s x : Operand) (t : TypeId)
    (ho : o.op = .call { callee := .builtin .append, args := #[s, x], argTypes := #[t, t] }) (base : Nat) (e : TypeId) (z : Value) (size bytes : Nat) (ht : Tryz.prog.underlying t = some (.slice e)) (hi : (Tryz.prog.info? e).map (fun i => (i.zero, i.size, i.bytes)) = some (some z, size, bytes))
    (hzs : z.cells.size = size) (hsz : 0 < size) (v : Value) (n : Nat) (xs : List Value) (hs : a.eval s = v) (hown : w.ownsRow base e size v n xs)
    (ad : Addr) (m c : Nat) (news : List Value) (hx : a.eval x = .slice (some ad) m c) (hr : RowAt w (some ad) m size news) (h1 : ∀ u ∈ news, u.oneCell' = true)
    (h63 : n + m ≤ maxLen) (hbytes : (n + m) * bytes ≤ 140737488355328) (hbase : base ≤ w.heap.size)
    (h : ∀ v' w', w'.ownsRow base e size v' (n + m) (xs ++ news) → w.grownBy w' v.ownBlock → (v'.ownBlock = v.ownBlock ∨ v'.ownBlock = some w.heap.size) → K (a.put o.dst v') w') : o.wp Tryz.prog a w K Q := by
  obtain ⟨i, hi, hz, hz1, hz2⟩ := info_parts hi
  obtain ⟨v', w', hru, h2, h3, -, h5⟩ := run_append_own_at (P := Tryz.prog) w base t o.type e i z size bytes ht hi hz hz1 hz2 hzs hsz v n xs hown ad m c news hr.1 (hr.2.2 ad rfl) h1 h63 hbytes hbase
  unfold Oper.wp execOp
  simp only [ho, resolve, invoke, builtin, Sem.run_bind, Sem.run_pure, Result.andThen_ok, List.map_toArray, List.map_cons, List.map_nil, hs, hx, hru]
  exact h v' w' h2 h3 h5
theorem info_ract : (Tryz.prog.info? 124).map (fun i => (i.zero, i.size, i.bytes)) = some (some (.agg #[.int .i64 0, .string ⟨#[]⟩, .string ⟨#[]⟩, .int .i64 0, .slice none 0 0]), 5, 72) := by kernel_rfl
def RPost (D : Nat → Prop) (g : Nat) (r : Int × DS) (w : World) (e : Ending) (w' : World) : Prop := e = .returned (.int .i64 r.1) ∧ RDk (grow D w w') w' g r.2 ∧ Frm D w w'
/-- The disk with one act more. -/
theorem radd_done {D : Nat → Prop} {w wc w6 wz : World} {g : Nat} {s : DS} {la : Option Addr} {ln lc : Nat} {av v' : Value} {H : List RH} {k t : Int} {x : RH} {act : ActS} (h : RDkIn D w g s la ln lc av H k t) (hx : RaV (Imr D g av) w x act)
    (hxc : Ext w wc) (hrow : w6.ownsRow 0 124 5 v' (s.acts.length + 1) (rawR H ++ x.cells)) (hgr : wc.grownBy w6 av.ownBlock) (hvb : ∀ q, v'.ownBlock = some q → D q ∨ w.heap.size ≤ q)
    (hvg : v'.ownBlock ≠ some g) (hvi : ∀ q, Imr D g av q → some q ≠ v'.ownBlock)
    (hS : SetG g 67 w6 wz #[.int .i64 s.room, .slice la ln lc, v', .bool s.off, .int .i64 s.left, .int .i64 k, .int .i64 t]) :
    RDkIn (grow D w wz) wz g { s with seen := act.run s.seen, acts := s.acts ++ [act] } la ln lc v' (H ++ [x]) k t ∧ Frm D w wz := by
  have z1 := hxc.size
  have z2 := hgr.size
  have z3 := hS.size
  have hk : ∀ q, Imr D g av q → q < w.heap.size → wz.heap[q]? = w.heap[q]? := fun q hq hl =>
    (hS.frm.block q (by omega) hq.2.1).trans ((hgr.block q (by omega) hq.2.2).trans (hxc.block q hl))
  refine ⟨⟨hS.obj, h.arm, h.k64, h.last.keep fun q hq hl => ⟨⟨.inl hq.1, hq.2.1, hvi q hq⟩, hk q hq hl⟩, ?_, (h.acts.keep fun q hq hl => ⟨⟨.inl hq.1, hq.2.1, hvi q hq⟩, hk q hq hl⟩).snoc (hx.keep fun q hq hl => ⟨⟨.inl hq.1, hq.2.1, hvi q hq⟩, hk q hq hl⟩), .inl h.dg, fun q hq => ?_, hvg, fun q hq => ?_⟩, ?_⟩
  · show wz.ownsRow 0 _ 5 v' (s.acts ++ [act]).length (rawR (H ++ [x]))
    rw [rawR_append, rawR_one, List.length_append]
    refine own_keep hrow fun q hq => hS.frm.block q (hrow.lt q hq).2 fun e => hvg (by rw [hq]; exact congrArg some e)
  · rcases hvb q hq with h1 | h1
    · exact .inl h1
    exact .inr ⟨h1, by have := (hrow.lt q hq).2; omega⟩
  · rcases hq with hq | hq
    · have := h.lt q hq; omega
    exact hq.2
  refine ⟨?_, ?_, ?_, by omega, fun q hq hn => ?_⟩
  · exact hS.frm.os.trans (hgr.os.trans hxc.os)
  · exact hS.frm.tape.trans (hgr.tape.trans hxc.tape)
  · exact hS.frm.output.trans (hgr.output.trans hxc.output)
  have hng : q ≠ g := fun e => hn (by rw [e]; exact h.dg)
  have hna : some q ≠ av.ownBlock := fun e => hn (h.dav q e.symm)
  exact (hS.frm.block q (by omega) hng).trans ((hgr.block q (by omega) hna).trans (hxc.block q hq))
theorem rfive (x0 : Int) (x1 x2 : ByteArray) (x3 : Int) (x4 : Option Addr) (x5 x6 : Nat) : ∀ u ∈ [Value.int .i64 x0, .string x1, .string x2, .int .i64 x3, .slice x4 x5 x6], u.oneCell' = true := by
  intro u hu
  simp only [List.mem_cons, List.not_mem_nil, or_false] at hu
  rcases hu with rfl | rfl | rfl | rfl | rfl <;> rfl
set_option maxRecDepth 100000 in
set_option maxHeartbeats 8000000 in
theorem RAdd_in {D : Nat → Prop} {w : World} {g : Nat} {s : DS} {la : Option Addr} {ln lc : Nat} {av : Value} {H : List RH} {k t : Int} (h : RDkIn D w g s la ln lc av H k t) {x : RH} {act : ActS} (hx : RaV (Imr D g av) w x act) (hok : s.Ok) (hoff : s.off = false)
    (hfit : act.Fits s.seen) (hr : (act.data.length : Int) ≤ s.room - s.used) (hc : s.acts.length < 100000000000) :
    Calls Tryz.prog 70 #[.pointer (some ⟨g, 0, none⟩), x.val] w (RPost D g (s.does act) w) := by
  have hok1 := hok.add hoff hfit hr
  have hdoes : s.does act = if ({ s with seen := act.run s.seen, acts := s.acts ++ [act] } : DS).hit.1 = true then (22, ({ s with seen := act.run s.seen, acts := s.acts ++ [act] } : DS).hit.2.fall s.keep s.tear) else (0, ({ s with seen := act.run s.seen, acts := s.acts ++ [act] } : DS).hit.2) := rfl
  obtain ⟨⟨c0, c1, c2, c3, c4, c5, c6⟩, hfz, hgl⟩ := rcells7 h.obj
  have HI := hid h
  have HXA := hid hx
  have hdl := h.lt
  obtain ⟨xk, xn, xt, xa, ba, bn, bc⟩ := x
  unfold RH.val
  dsimp only
  have hcb := heap_alloc_new w (.cells #[.int .i64 xk, .string ⟨xn.toArray⟩, .string ⟨xt.toArray⟩, .int .i64 xa, .slice ba bn bc] 124)
  have hx1 := ext_alloc w (.cells #[.int .i64 xk, .string ⟨xn.toArray⟩, .string ⟨xt.toArray⟩, .int .i64 xa, .slice ba bn bc] 124)
  have hz1 : (w.alloc (.cells #[.int .i64 xk, .string ⟨xn.toArray⟩, .string ⟨xt.toArray⟩, .int .i64 xa, .slice ba bn bc] 124)).heap.size = w.heap.size + 1 := World.size_alloc ..
  have HCB := hid hcb
  have HX1 := hid hx1
  have HDL := hid hdl
  have HC := hid hc
  have HZ1 := hid hz1
  obtain ⟨s1, hs1⟩ : ∃ s1 : DS, s1 = { s with seen := act.run s.seen, acts := s.acts ++ [act] } := ⟨_, rfl⟩
  rw [← hs1] at hdoes hok1
  obtain ⟨R, hR⟩ : ∃ R, R = s.does act := ⟨_, rfl⟩
  rw [← hR] at hdoes ⊢
  have HR := hid hdoes
  have HOK1 := hid hok1
  have HS1 := hid hs1
  clear h hx hok hoff hfit hr hc hdoes hcb hx1 hz1 hdl hfz hs1 hok1 hR c0 c1 c2 c3 c4 c5 c6
  go_enter Tryz.func70, Tryz.ntmps70
  go_wp2
  generalize w.alloc (.cells #[.int .i64 xk, .string ⟨xn.toArray⟩, .string ⟨xt.toArray⟩, .int .i64 xa, .slice ba bn bc] 124) = wc at *
  refine wp_region_held_drew (S := fun W => W.heap[w.heap.size]? = some (.cells #[.int .i64 xk, .string ⟨xn.toArray⟩, .string ⟨xt.toArray⟩, .int .i64 xa, .slice ba bn bc] 124 (0, 0))) (by kernel_rfl) HCB.out (fun hH => ?_)
  obtain ⟨wd, hwd⟩ : ∃ wd, wd = wc.drew := ⟨_, rfl⟩
  have hxd : Ext w wd := by rw [hwd]; exact HX1.out.trans' (ext_drew wc)
  have y0 : wd.heap[w.heap.size]? = some (.cells #[.int .i64 xk, .string ⟨xn.toArray⟩, .string ⟨xt.toArray⟩, .int .i64 xa, .slice ba bn bc] 124 (0, 0)) := by rw [hwd]; exact HCB.out
  have hzd : wd.heap.size = w.heap.size + 1 := by rw [hwd]; exact HZ1.out
  rw [← hwd]
  have HXD := hid hxd
  have HZD := hid hzd
  clear hH hwd hxd hzd
  refine hr_ 0 (.pointer (some ⟨g, 0, none⟩)) rfl y0 (fun W hW => ?_) ?_
  · (clear hW; go_simp)
  try simp only [Act.put, sA_, s0_, sS_]
  refine hr_ 1 (.pointer (some ⟨g, 0, none⟩)) rfl y0 (fun W hW => ?_) ?_
  · (clear hW; go_simp)
  try simp only [Act.put, sA_, s0_, sS_]
  refine hr_ 2 (.pointer (some ⟨g, 0, none⟩)) rfl y0 (fun W hW => ?_) ?_
  · (clear hW; go_simp)
  try simp only [Act.put, sA_, s0_, sS_]
  refine hr_ 3 (.pointer (some ⟨g, 2, none⟩)) rfl y0 (fun W hW => ?_) ?_
  · (clear hW; go_simp)
  try simp only [Act.put, sA_, s0_, sS_]
  refine hr_ 5 (.agg #[.int .i64 xk, .string ⟨xn.toArray⟩, .string ⟨xt.toArray⟩, .int .i64 xa, .slice ba bn bc]) rfl y0 (fun W hW => ?_) ?_
  · (obtain ⟨k0', k1', k2', k3', k4'⟩ := rcells5 hW; clear hW; go_simp)
  try simp only [Act.put, sA_, s0_, sS_]
  refine wpAnyH_ready (rs := [4, 6]) (by kernel_rfl) (by simp) ?_
  refine held_cons2 (i := 4) (j := 6) rfl rfl (fun K hK => ?_) (fun K hK => ?_)
  · skip
    have d2 := (rcells7 ((HXD.out.block g hgl).trans HI.out.obj)).1.2.2.1
    go_simp
    have y1 := y0
    clear d2
    refine hK.out _ _ y1 (fun hH => ?_)
    clear hK K y0 hH
    have y0 := y1
    clear y1
    try simp only [Act.put, sA_, s0_, sS_]
    refine hc_ 6 rfl (fun K hK => ?_)
    go_simp
    have x2 := ext_alloc wd (.cells #[.int .i64 xk, .string ⟨xn.toArray⟩, .string ⟨xt.toArray⟩, .int .i64 xa, .slice ba bn bc] 124)
    have y1 := (x2.block w.heap.size (Array.getElem?_eq_some_iff.1 y0).1).trans y0
    have HNR := hid (rnews_row wd [.int .i64 xk, .string ⟨xn.toArray⟩, .string ⟨xt.toArray⟩, .int .i64 xa, .slice ba bn bc] 1 5 124 rfl)
    have HXE := hid (HXD.out.trans' x2)
    clear x2
    refine hK.out _ _ y1 (fun hH => ?_)
    clear hK K y0 hH
    have y0 := y1
    clear y1
    try simp only [Act.put, sA_, s0_, sS_]
    refine hc_ 7 rfl (fun K hK => ?_)
    rw [if_pos (by rfl)]
    refine wp_appRow (.tmp 9) (.tmp 11) 65 rfl 0 124 _ 5 72 Tryz.underlying65 info_ract rfl (by decide) av s.acts.length (rawR H) rfl (own_keep HI.out.row fun q hq => HXE.out.block q (HDL.out q (HI.out.dav q hq))) ⟨wd.heap.size, 0, none⟩ 1 1 _ rfl HNR.out (rfive _ _ _ _ _ _ _) (by have := HC.out; unfold maxLen; omega) (by have := HC.out; omega) (Nat.zero_le _) ?_
    intro v6 w6 hrow hgr hat
    obtain ⟨a6, c6, hv6⟩ := own_slice2 hrow
    subst hv6
    have y1 := (hgr.block w.heap.size (Array.getElem?_eq_some_iff.1 y0).1 (fun e => by have := HDL.out _ (HI.out.dav _ e.symm); omega)).trans y0
    have HROW := hid hrow
    have HGR := hid hgr
    have hnew : ∀ q, (Value.slice a6 (s.acts.length + 1) c6).ownBlock = some q → av.ownBlock = some q ∨ wd.heap.size + 1 ≤ q := fun q hq => by
      rcases hat with h | h
      · exact .inl (by rw [← h]; exact hq)
      rw [h] at hq; injection hq with hq; exact .inr (by rw [World.size_alloc] at hq; omega)
    have HNEW := hid hnew
    clear hrow hgr hnew hat
    refine hK.out _ _ y1 (fun hH => ?_)
    clear hK K y0 hH
    have y0 := y1
    clear y1
    try simp only [Act.put, sA_, s0_, sS_]
    refine hr_ 8 (.pointer (some ⟨g, 0, none⟩)) rfl y0 (fun W hW => ?_) ?_
    · (clear hW; go_simp)
    try simp only [Act.put, sA_, s0_, sS_]
    refine hr_ 9 (.pointer (some ⟨g, 2, none⟩)) rfl y0 (fun W hW => ?_) ?_
    · (clear hW; go_simp)
    try simp only [Act.put, sA_, s0_, sS_]
    refine hc_ 10 rfl (fun K hK => ?_)
    have hg6 := ((HGR.out.block g (Nat.lt_of_lt_of_le hgl HXE.out.size) (fun e => HI.out.gav e.symm)).trans (HXE.out.block g hgl)).trans HI.out.obj
    obtain ⟨⟨d0, d1, d2, d3, d4, d5, d6⟩, fz6, hgl6⟩ := rcells7 hg6
    have f2 := fz6 2
    have hS := (SetG.start hg6).step 2 (.slice a6 (s.acts.length + 1) c6)
    go_simp
    generalize w6.setCell ⟨g, 2, none⟩ (.slice a6 (s.acts.length + 1) c6) = w7 at *
    have y1 := (hS.frm.block w.heap.size (Array.getElem?_eq_some_iff.1 y0).1 (by show ¬ _ = g; omega)).trans y0
    have HS := hid hS
    clear hS d0 d1 d2 d3 d4 d5 d6 fz6 f2 hg6 hgl6
    refine hK.out _ _ y1 (fun hH => ?_)
    clear hK K y0 hH
    have y0 := y1
    clear y1
    try simp only [Act.put, sA_, s0_, sS_]
    refine wpAnyH_done (by kernel_rfl) ?_ _
    clear y0
    obtain ⟨hin, hfr⟩ := radd_done HI.out HXA.out HXE.out (by have := HROW.out; exact this) HGR.out
      (fun q hq => (HNEW.out q hq).imp (HI.out.dav q) (fun h => by have := HXD.out.size; omega)) (fun e => (HNEW.out g e).elim HI.out.gav (fun h => by have := HXD.out.size; omega))
      (fun q hq e => (HNEW.out q e.symm).elim (fun h => hq.2.2 h.symm) (fun h => by have := HDL.out q hq.1; have := HXD.out.size; omega)) HS.out
    rw [← HS1.out] at hin
    have HIN := hid hin
    have HFR := hid hfr
    have hhit := RHit_any ⟨_, _, _, _, _, _, _, hin⟩ HOK1.out
    have HHIT := hid hhit
    have HC5 := hid (show w7.cell? ⟨g, 5, none⟩ = some (.int .i64 k) ∧ w7.cell? ⟨g, 6, none⟩ = some (.int .i64 t) from ⟨(rcells7 hin.obj).1.2.2.2.2.2.1, (rcells7 hin.obj).1.2.2.2.2.2.2⟩)
    clear hin hfr hhit
    go_wp2_with fail
    refine Calls.mono HHIT.out ?_
    rintro e w8 ⟨rfl, hd8, hf8, hz8, h5, h6⟩
    have HFR8 := hid (HFR.out.trans hf8 fun q hq => by
      rcases hq with hq | hq
      · exact .inl hq
      exact .inr hq.1)
    have HD8 := hid hd8
    have q5 := h5.trans HC5.out.1
    have q6 := h6.trans HC5.out.2
    have HZ8 := hid (show w.heap.size ≤ w7.heap.size ∧ w8.heap.size = w7.heap.size from ⟨HFR.out.size, hz8⟩)
    clear hd8 hf8 hz8 h5 h6 HHIT
    have hhb : s1.hit.1 = true ∨ s1.hit.1 = false := by cases s1.hit.1 <;> simp
    rcases hhb with hhb | hhb
    · have hre := HR.out
      rw [if_pos hhb] at hre
      have HRE := hid hre
      have hleft : s.left ≠ 0 := fun e => by
        have : s1.left = 0 := by rw [HS1.out]; exact e
        unfold DS.hit at hhb
        rw [if_pos this] at hhb
        cases hhb
      have HKT := hid (HI.out.arm hleft)
      have HK64 := hid HI.out.k64
      rw [hhb]
      clear hre hleft hhb
      go_wp2_with fail
      go_still_tail 9, (by kernel_rfl)
      change wpList _ _ _ _ _ w8.drew
      have HD9 := hid (HD8.out.below (ext_drew w8))
      have hac : s1.hit.2.acts.length < 1000000000000 := by rw [DS.hit_acts s1, HS1.out]; show (s.acts ++ [act]).length < _; rw [List.length_append]; have := HC.out; show s.acts.length + 1 < _; omega
      have HAC := hid hac
      have hfall := RFall_any HD9.out HOK1.out.hit hac k t HK64.out.1 HK64.out.2
      have HFA := hid hfall
      clear hac hfall
      go_wp2_with (go_at_call 80; refine Calls.mono HFA.out ?_; rintro e w9 ⟨rfl, hd9, hf9⟩; have HD10 := hid hd9; have HF10 := hid hf9; clear hd9 hf9)
      go_ret
      rw [HRE.out]
      obtain ⟨kk, tt⟩ := HKT.out
      have hd := HD10.out
      rw [kk, tt] at hd
      have hz := HZ8.out
      have hz9 := HF10.out.size
      have hzd : w8.drew.heap.size = w8.heap.size := rfl
      refine ⟨rfl, hd.more (fun q hq => ?_) (fun q hq => ?_), (HFR8.out.then_ext (ext_drew w8)).trans HF10.out fun q hq => ?_⟩
      · rcases hq with (hq | hq) | hq
        · exact .inl hq
        · exact .inr ⟨hq.1, by have := hq.2; omega⟩
        exact .inr ⟨by have := hq.1; omega, hq.2⟩
      · rcases hq with hq | hq
        · have := HDL.out q hq; omega
        exact hq.2
      rcases hq with hq | hq
      · exact .inl hq
      exact .inr hq.1
    have hre := HR.out
    rw [if_neg (by rw [hhb]; simp)] at hre
    have HRE := hid hre
    rw [hhb]
    clear hre hhb q5 q6
    go_wp2
    go_ret
    rw [HRE.out]
    have hz := HZ8.out
    refine ⟨rfl, HD8.out.more (fun q hq => ?_) (fun q hq => ?_), HFR8.out⟩
    · rcases hq with hq | hq
      · exact .inl hq
      exact .inr ⟨hq.1, by have := hq.2; omega⟩
    rcases hq with hq | hq
    · have := HDL.out q hq; omega
    exact hq.2
  skip
  go_simp
  have x2 := ext_alloc wd (.cells #[.int .i64 xk, .string ⟨xn.toArray⟩, .string ⟨xt.toArray⟩, .int .i64 xa, .slice ba bn bc] 124)
  have y1 := (x2.block w.heap.size (Array.getElem?_eq_some_iff.1 y0).1).trans y0
  have HNR := hid (rnews_row wd [.int .i64 xk, .string ⟨xn.toArray⟩, .string ⟨xt.toArray⟩, .int .i64 xa, .slice ba bn bc] 1 5 124 rfl)
  have HXE := hid (HXD.out.trans' x2)
  clear x2
  refine hK.out _ _ y1 (fun hH => ?_)
  clear hK K y0 hH
  have y0 := y1
  clear y1
  try simp only [Act.put, sA_, s0_, sS_]
  refine hc_ 4 rfl (fun K hK => ?_)
  have d2 := (rcells7 ((HXE.out.block g hgl).trans HI.out.obj)).1.2.2.1
  go_simp
  have y1 := y0
  clear d2
  refine hK.out _ _ y1 (fun hH => ?_)
  clear hK K y0 hH
  have y0 := y1
  clear y1
  try simp only [Act.put, sA_, s0_, sS_]
  refine hc_ 7 rfl (fun K hK => ?_)
  rw [if_pos (by rfl)]
  refine wp_appRow (.tmp 9) (.tmp 11) 65 rfl 0 124 _ 5 72 Tryz.underlying65 info_ract rfl (by decide) av s.acts.length (rawR H) rfl (own_keep HI.out.row fun q hq => HXE.out.block q (HDL.out q (HI.out.dav q hq))) ⟨wd.heap.size, 0, none⟩ 1 1 _ rfl HNR.out (rfive _ _ _ _ _ _ _) (by have := HC.out; unfold maxLen; omega) (by have := HC.out; omega) (Nat.zero_le _) ?_
  intro v6 w6 hrow hgr hat
  obtain ⟨a6, c6, hv6⟩ := own_slice2 hrow
  subst hv6
  have y1 := (hgr.block w.heap.size (Array.getElem?_eq_some_iff.1 y0).1 (fun e => by have := HDL.out _ (HI.out.dav _ e.symm); omega)).trans y0
  have HROW := hid hrow
  have HGR := hid hgr
  have hnew : ∀ q, (Value.slice a6 (s.acts.length + 1) c6).ownBlock = some q → av.ownBlock = some q ∨ wd.heap.size + 1 ≤ q := fun q hq => by
    rcases hat with h | h
    · exact .inl (by rw [← h]; exact hq)
    rw [h] at hq; injection hq with hq; exact .inr (by rw [World.size_alloc] at hq; omega)
  have HNEW := hid hnew
  clear hrow hgr hnew hat
  refine hK.out _ _ y1 (fun hH => ?_)
  clear hK K y0 hH
  have y0 := y1
  clear y1
  try simp only [Act.put, sA_, s0_, sS_]
  refine hr_ 8 (.pointer (some ⟨g, 0, none⟩)) rfl y0 (fun W hW => ?_) ?_
  · (clear hW; go_simp)
  try simp only [Act.put, sA_, s0_, sS_]
  refine hr_ 9 (.pointer (some ⟨g, 2, none⟩)) rfl y0 (fun W hW => ?_) ?_
  · (clear hW; go_simp)
  try simp only [Act.put, sA_, s0_, sS_]
  refine hc_ 10 rfl (fun K hK => ?_)
  have hg6 := ((HGR.out.block g (Nat.lt_of_lt_of_le hgl HXE.out.size) (fun e => HI.out.gav e.symm)).trans (HXE.out.block g hgl)).trans HI.out.obj
  obtain ⟨⟨d0, d1, d2, d3, d4, d5, d6⟩, fz6, hgl6⟩ := rcells7 hg6
  have f2 := fz6 2
  have hS := (SetG.start hg6).step 2 (.slice a6 (s.acts.length + 1) c6)
  go_simp
  generalize w6.setCell ⟨g, 2, none⟩ (.slice a6 (s.acts.length + 1) c6) = w7 at *
  have y1 := (hS.frm.block w.heap.size (Array.getElem?_eq_some_iff.1 y0).1 (by show ¬ _ = g; omega)).trans y0
  have HS := hid hS
  clear hS d0 d1 d2 d3 d4 d5 d6 fz6 f2 hg6 hgl6
  refine hK.out _ _ y1 (fun hH => ?_)
  clear hK K y0 hH
  have y0 := y1
  clear y1
  try simp only [Act.put, sA_, s0_, sS_]
  refine wpAnyH_done (by kernel_rfl) ?_ _
  clear y0
  obtain ⟨hin, hfr⟩ := radd_done HI.out HXA.out HXE.out (by have := HROW.out; exact this) HGR.out
    (fun q hq => (HNEW.out q hq).imp (HI.out.dav q) (fun h => by have := HXD.out.size; omega)) (fun e => (HNEW.out g e).elim HI.out.gav (fun h => by have := HXD.out.size; omega))
    (fun q hq e => (HNEW.out q e.symm).elim (fun h => hq.2.2 h.symm) (fun h => by have := HDL.out q hq.1; have := HXD.out.size; omega)) HS.out
  rw [← HS1.out] at hin
  have HIN := hid hin
  have HFR := hid hfr
  have hhit := RHit_any ⟨_, _, _, _, _, _, _, hin⟩ HOK1.out
  have HHIT := hid hhit
  have HC5 := hid (show w7.cell? ⟨g, 5, none⟩ = some (.int .i64 k) ∧ w7.cell? ⟨g, 6, none⟩ = some (.int .i64 t) from ⟨(rcells7 hin.obj).1.2.2.2.2.2.1, (rcells7 hin.obj).1.2.2.2.2.2.2⟩)
  clear hin hfr hhit
  go_wp2_with fail
  refine Calls.mono HHIT.out ?_
  rintro e w8 ⟨rfl, hd8, hf8, hz8, h5, h6⟩
  have HFR8 := hid (HFR.out.trans hf8 fun q hq => by
    rcases hq with hq | hq
    · exact .inl hq
    exact .inr hq.1)
  have HD8 := hid hd8
  have q5 := h5.trans HC5.out.1
  have q6 := h6.trans HC5.out.2
  have HZ8 := hid (show w.heap.size ≤ w7.heap.size ∧ w8.heap.size = w7.heap.size from ⟨HFR.out.size, hz8⟩)
  clear hd8 hf8 hz8 h5 h6 HHIT
  have hhb : s1.hit.1 = true ∨ s1.hit.1 = false := by cases s1.hit.1 <;> simp
  rcases hhb with hhb | hhb
  · have hre := HR.out
    rw [if_pos hhb] at hre
    have HRE := hid hre
    have hleft : s.left ≠ 0 := fun e => by
      have : s1.left = 0 := by rw [HS1.out]; exact e
      unfold DS.hit at hhb
      rw [if_pos this] at hhb
      cases hhb
    have HKT := hid (HI.out.arm hleft)
    have HK64 := hid HI.out.k64
    rw [hhb]
    clear hre hleft hhb
    go_wp2_with fail
    go_still_tail 9, (by kernel_rfl)
    change wpList _ _ _ _ _ w8.drew
    have HD9 := hid (HD8.out.below (ext_drew w8))
    have hac : s1.hit.2.acts.length < 1000000000000 := by rw [DS.hit_acts s1, HS1.out]; show (s.acts ++ [act]).length < _; rw [List.length_append]; have := HC.out; show s.acts.length + 1 < _; omega
    have HAC := hid hac
    have hfall := RFall_any HD9.out HOK1.out.hit hac k t HK64.out.1 HK64.out.2
    have HFA := hid hfall
    clear hac hfall
    go_wp2_with (go_at_call 80; refine Calls.mono HFA.out ?_; rintro e w9 ⟨rfl, hd9, hf9⟩; have HD10 := hid hd9; have HF10 := hid hf9; clear hd9 hf9)
    go_ret
    rw [HRE.out]
    obtain ⟨kk, tt⟩ := HKT.out
    have hd := HD10.out
    rw [kk, tt] at hd
    have hz := HZ8.out
    have hz9 := HF10.out.size
    have hzd : w8.drew.heap.size = w8.heap.size := rfl
    refine ⟨rfl, hd.more (fun q hq => ?_) (fun q hq => ?_), (HFR8.out.then_ext (ext_drew w8)).trans HF10.out fun q hq => ?_⟩
    · rcases hq with (hq | hq) | hq
      · exact .inl hq
      · exact .inr ⟨hq.1, by have := hq.2; omega⟩
      exact .inr ⟨by have := hq.1; omega, hq.2⟩
    · rcases hq with hq | hq
      · have := HDL.out q hq; omega
      exact hq.2
    rcases hq with hq | hq
    · exact .inl hq
    exact .inr hq.1
  have hre := HR.out
  rw [if_neg (by rw [hhb]; simp)] at hre
  have HRE := hid hre
  rw [hhb]
  clear hre hhb q5 q6
  go_wp2
  go_ret
  rw [HRE.out]
  have hz := HZ8.out
  refine ⟨rfl, HD8.out.more (fun q hq => ?_) (fun q hq => ?_), HFR8.out⟩
  · rcases hq with hq | hq
    · exact .inl hq
    exact .inr ⟨hq.1, by have := hq.2; omega⟩
  rcases hq with hq | hq
  · have := HDL.out q hq; omega
  exact hq.2
end Go.Proofs.YtjapeaoebjmpnaaGreatDoor

/- The walks of the reference's Drop, Move, Arm, Crash, Start, New, Sync. -/
namespace Go.Proofs.YtjapeaoebjmpnaaGreatDoor
open Go.RowKit Go.Maps
set_option linter.unusedVariables false
set_option linter.unusedSimpArgs false
attribute [local go_sem] bmax2 bmin2 bmax_two bmin_two

theorem RPost.after {D : Nat → Prop} {g : Nat} {r : Int × DS} {w w1 w2 : World} {e : Ending} (hx : Ext w w1) (hD : ∀ q, D q → q < w.heap.size) (h : RPost D g r w1 e w2) : RPost D g r w e w2 := by
  obtain ⟨h1, h2, h3⟩ := h
  have z1 := hx.size
  have z2 := h3.size
  refine ⟨h1, h2.more (fun q hq => ?_) (fun q hq => ?_), (Frm.of_ext hx D).trans h3 fun q hq => .inl hq⟩
  · rcases hq with hq | hq
    · exact .inl hq
    exact .inr ⟨by have := hq.1; omega, hq.2⟩
  rcases hq with hq | hq
  · have := hD q hq; omega
  exact hq.2
theorem RPost.same {D : Nat → Prop} {g : Nat} {s : DS} {w w' : World} (h : RDk D w g s) (hx : Ext w w') (z : Int) : RPost D g (z, s) w (.returned (.int .i64 z)) w' :=
  ⟨rfl, (h.below hx).more (fun q hq => .inl hq) (grow.lt h.lt hx.size), Frm.of_ext hx D⟩
/-- An act with no bytes. -/
theorem RAdd_nil {D : Nat → Prop} {w : World} {g : Nat} {s : DS} (h : RDk D w g s) {x : RH} {act : ActS} (hk : RaK x act) (hd : act.data = []) (hxs : x.a = none ∧ x.n = 0 ∧ x.c = 0) (hok : s.Ok) (hoff : s.off = false)
    (hfit : act.Fits s.seen) (hc : s.acts.length < 100000000000) :
    Calls Tryz.prog 70 #[.pointer (some ⟨g, 0, none⟩), x.val] w (RPost D g (s.does act) w) := by
  obtain ⟨la, ln, lc, av, H, k, t, h⟩ := h
  obtain ⟨x1, x2, x3⟩ := hxs
  exact RAdd_in h ⟨hk, by rw [x1, x2, x3, hd]; exact ByF.nil_ _ _⟩ hok hoff hfit (by rw [hd]; have := hok.used; simp; omega) hc
set_option maxRecDepth 100000 in
set_option maxHeartbeats 4000000 in
theorem RDrop_any {D : Nat → Prop} {w : World} {g : Nat} {s : DS} (h : RDk D w g s) (hok : s.Ok) (hc : s.acts.length < 100000000000) (nm : Nm) (hn : nm.length ≤ maxLen) :
    Calls Tryz.prog 76 #[.pointer (some ⟨g, 0, none⟩), .string ⟨nm.toArray⟩] w (RPost D g (s.drop nm) w) := by
  have HWH := hid (RWhy_any h hok (by omega) nm hn)
  have hdrop : s.drop nm = if s.find nm ≠ 0 then (s.find nm, s) else s.does (.drop nm) := rfl
  have HADD := hid (fun W (hW : Ext w W) (hz : s.find nm = 0) => by
    obtain ⟨f1, f2, b, f3⟩ := DS.find_zero hz
    exact RAdd_nil (h.below hW) (x := ⟨3, nm, [], 0, none, 0, 0⟩) (act := .drop nm) ⟨rfl, rfl⟩ rfl ⟨rfl, rfl, rfl⟩ hok f1 (mayS_len f2).2 hc)
  have H := hid h
  obtain ⟨z, hz⟩ : ∃ z, z = s.find nm := ⟨_, rfl⟩
  rw [← hz] at hdrop HWH HADD
  rw [hdrop]
  clear h hok hc hn hdrop hz
  by_cases h0 : z = 0
  · rw [if_neg (by rw [h0]; simp)]
    have HAD := hid (fun W hW => HADD.out W hW h0)
    subst h0
    unfold RH.val at HAD
    dsimp only at HAD
    clear HADD
    obtain ⟨R, hR⟩ : ∃ R, R = s.does (.drop nm) := ⟨_, rfl⟩
    rw [← hR] at HAD ⊢
    clear hR
    go_enter Tryz.func76, Tryz.ntmps76
    go_wp2_with fail
    refine Calls.mono HWH.out ?_
    rintro e w1 ⟨rfl, hx1⟩
    have HX1 := hid hx1
    clear hx1
    go_wp2_with fail
    refine Calls.mono (HAD.out w1 HX1.out) ?_
    rintro e w2 hp
    have HP := hid (hp.after HX1.out H.out.lt)
    obtain ⟨rfl, -, -⟩ := hp
    go_wp2
    go_ret
    exact HP.out
  rw [if_pos h0]
  have hzb : (z != 0) = true := by simpa using h0
  clear h0 HADD
  go_enter Tryz.func76, Tryz.ntmps76
  go_wp2_with fail
  refine Calls.mono HWH.out ?_
  rintro e w1 ⟨rfl, hx1⟩
  have HX1 := hid hx1
  clear hx1
  go_wp2
  go_ret
  exact RPost.same H.out HX1.out z
set_option maxRecDepth 100000 in
set_option maxHeartbeats 4000000 in
theorem RMove_any {D : Nat → Prop} {w : World} {g : Nat} {s : DS} (h : RDk D w g s) (hok : s.Ok) (hc : s.acts.length < 100000000000) (old nm : Nm) (ho : old.length ≤ maxLen) (hn : nm.length ≤ maxLen) :
    Calls Tryz.prog 82 #[.pointer (some ⟨g, 0, none⟩), .string ⟨old.toArray⟩, .string ⟨nm.toArray⟩] w (RPost D g (s.move old nm) w) := by
  have HWH := hid (RWhy_any h hok (by omega) old ho)
  have HNA := hid (fun W => RName_any W nm hn)
  have hdrop : s.move old nm = if s.find old ≠ 0 then (s.find old, s) else if mayS nm = false then (20, s) else s.does (.move old nm) := rfl
  have HADD := hid (fun W (hW : Ext w W) (hz : s.find old = 0) (hm : mayS nm = true) => by
    obtain ⟨f1, f2, b, f3⟩ := DS.find_zero hz
    exact RAdd_nil (h.below hW) (x := ⟨2, old, nm, 0, none, 0, 0⟩) (act := .move old nm) ⟨rfl, rfl, rfl⟩ rfl ⟨rfl, rfl, rfl⟩ hok f1 ⟨(mayS_len f2).2, (mayS_len hm).2, by rw [f3]; rfl⟩ hc)
  have H := hid h
  obtain ⟨z, hz⟩ : ∃ z, z = s.find old := ⟨_, rfl⟩
  obtain ⟨my, hmy⟩ : ∃ my, my = mayS nm := ⟨_, rfl⟩
  rw [← hz, ← hmy] at hdrop
  rw [← hz] at HWH
  rw [← hmy] at HNA
  rw [← hz, ← hmy] at HADD
  rw [hdrop]
  clear h hok hc hn ho hdrop hz hmy
  by_cases h0 : z = 0
  · rw [if_neg (by rw [h0]; simp)]
    have HAD := hid (fun W hW => HADD.out W hW h0)
    subst h0
    unfold RH.val at HAD
    dsimp only at HAD
    clear HADD
    obtain ⟨R, hR⟩ : ∃ R, R = s.does (.move old nm) := ⟨_, rfl⟩
    rw [← hR] at HAD ⊢
    clear hR
    cases my with
    | false =>
      rw [if_pos rfl]
      clear HAD
      go_enter Tryz.func82, Tryz.ntmps82
      go_wp2_with fail
      refine Calls.mono HWH.out ?_
      rintro e w1 ⟨rfl, hx1⟩
      have HX1 := hid hx1
      clear hx1
      go_wp2_with fail
      refine Calls.mono (HNA.out w1) ?_
      rintro e w2 ⟨rfl, hw2⟩
      subst hw2
      go_wp2
      go_ret
      exact RPost.same H.out HX1.out 20
    | true =>
      rw [if_neg (by simp)]
      go_enter Tryz.func82, Tryz.ntmps82
      go_wp2_with fail
      refine Calls.mono HWH.out ?_
      rintro e w1 ⟨rfl, hx1⟩
      have HX1 := hid hx1
      clear hx1
      go_wp2_with fail
      refine Calls.mono (HNA.out w1) ?_
      rintro e w2 ⟨rfl, hw2⟩
      subst hw2
      go_wp2_with fail
      refine Calls.mono (HAD.out w2 HX1.out (by first | trivial | rfl)) ?_
      rintro e w3 hp
      have HP := hid (hp.after HX1.out H.out.lt)
      obtain ⟨rfl, -, -⟩ := hp
      go_wp2
      go_ret
      exact HP.out
  rw [if_pos h0]
  have hzb : (z != 0) = true := by simpa using h0
  clear h0 HADD
  go_enter Tryz.func82, Tryz.ntmps82
  go_wp2_with fail
  refine Calls.mono HWH.out ?_
  rintro e w1 ⟨rfl, hx1⟩
  have HX1 := hid hx1
  clear hx1
  go_wp2
  go_ret
  exact RPost.same H.out HX1.out z
set_option maxRecDepth 100000 in
set_option maxHeartbeats 4000000 in
theorem RArm_any {D : Nat → Prop} {w : World} {g : Nat} {s : DS} (h : RDk D w g s) (n keep tear : Int) (hn : In64 n) (hk : In64 keep) (ht : In64 tear) :
    Calls Tryz.prog 33 #[.pointer (some ⟨g, 0, none⟩), .int .i64 n, .int .i64 keep, .int .i64 tear] w (RPost D g (s.arm n keep tear) w) := by
  have H := hid h
  obtain ⟨la, ln, lc, av, HH, k, t, h⟩ := h
  obtain ⟨⟨c0, c1, c2, c3, c4, c5, c6⟩, hfz, hgl⟩ := rcells7 h.obj
  have f4 := hfz 4
  have f5 := hfz 5
  have f6 := hfz 6
  have HI := hid h
  have HK := hid (show In64 keep ∧ In64 tear from ⟨hk, ht⟩)
  cases hoff : s.off with
  | true =>
    have hr : s.arm n keep tear = (22, s) := by unfold DS.arm; simp [hoff]
    rw [hr]
    rw [hoff] at c3
    clear hr hoff h hfz hk ht
    go_enter Tryz.func33, Tryz.ntmps33
    go_wp2
    go_ret
    exact RPost.same H.out (Below.refl _ _) 22
  | false =>
    have hr : s.arm n keep tear = (0, { s with left := max n 0, keep := keep, tear := tear }) := by unfold DS.arm; simp [hoff]
    rw [hr]
    rw [hoff] at c3
    have HO := hid hoff
    clear hr hoff h hfz hk ht
    go_enter Tryz.func33, Tryz.ntmps33
    go_wp2
    go_ret
    obtain ⟨r1, r2⟩ := HI.out.nums (off := s.off) (left := max n 0) (kp := keep) (tr := tear) ((((SetG.start HI.out.obj).step 4 (.int .i64 (max n 0))).step 5 (.int .i64 keep)).step 6 (.int .i64 tear)) (fun _ => ⟨rfl, rfl⟩) HK.out
    refine ⟨rfl, RDk.more ⟨_, _, _, _, _, _, _, r1⟩ (fun q hq => .inl hq) (grow.lt HI.out.lt r2.size), r2⟩
set_option maxRecDepth 100000 in
set_option maxHeartbeats 4000000 in
theorem RStart_any {D : Nat → Prop} {w : World} {g : Nat} {s : DS} (h : RDk D w g s) :
    Calls Tryz.prog 35 #[.pointer (some ⟨g, 0, none⟩)] w (RPost D g (0, s.start) w) := by
  obtain ⟨la, ln, lc, av, HH, k, t, h⟩ := h
  obtain ⟨⟨c0, c1, c2, c3, c4, c5, c6⟩, hfz, hgl⟩ := rcells7 h.obj
  have f3 := hfz 3
  have HI := hid h
  clear h hfz
  go_enter Tryz.func35, Tryz.ntmps35
  go_wp2
  go_ret
  obtain ⟨r1, r2⟩ := HI.out.nums (off := false) (left := s.left) (kp := s.keep) (tr := s.tear) ((SetG.start HI.out.obj).step 3 (.bool false)) HI.out.arm HI.out.k64
  exact ⟨rfl, RDk.more ⟨_, _, _, _, _, _, _, r1⟩ (fun q hq => .inl hq) (grow.lt HI.out.lt r2.size), r2⟩
set_option maxRecDepth 100000 in
set_option maxHeartbeats 4000000 in
theorem RCrash_any {D : Nat → Prop} {w : World} {g : Nat} {s : DS} (h : RDk D w g s) (hok : s.Ok) (hc : s.acts.length < 1000000000000) (keep tear : Int) (hk : In64 keep) (ht : In64 tear) :
    Calls Tryz.prog 32 #[.pointer (some ⟨g, 0, none⟩), .int .i64 keep, .int .i64 tear] w (RPost D g (s.crash keep tear) w) := by
  have H := hid h
  have hc3 := h.c3.1
  have HFA := hid (RFall_any h hok hc keep tear hk ht)
  have hr : s.crash keep tear = if s.off = true then (22, s) else (0, s.fall keep tear) := rfl
  obtain ⟨off, hoff⟩ : ∃ off, off = s.off := ⟨_, rfl⟩
  rw [← hoff] at hr hc3
  rw [hr]
  clear h hok hc hk ht hr hoff
  cases off with
  | true =>
    rw [if_pos rfl]
    go_enter Tryz.func32, Tryz.ntmps32
    go_wp2
    go_ret
    exact RPost.same H.out (Below.refl _ _) 22
  | false =>
    rw [if_neg (by simp)]
    go_enter Tryz.func32, Tryz.ntmps32
    go_wp2_with fail
    refine Calls.mono HFA.out ?_
    rintro e w1 ⟨rfl, hd, hf⟩
    have HD := hid hd
    have HF := hid hf
    clear hd hf
    go_wp2
    go_ret
    exact ⟨rfl, HD.out, HF.out⟩
def RNewPost (room : Int) (w : World) (e : Ending) (w' : World) : Prop :=
  (0 ≤ room ∧ room ≤ 16777216 ∧ ∃ g, e = .returned (.tuple #[.pointer (some ⟨g, 0, none⟩), .int .i64 0]) ∧ RDk (fun q => q = g) w' g (DS.new room) ∧ w.heap.size ≤ g ∧ Ext w w') ∨
  (¬ (0 ≤ room ∧ room ≤ 16777216) ∧ e = .returned (.tuple #[.pointer none, .int .i64 1]) ∧ Ext w w')
set_option maxRecDepth 100000 in
set_option maxHeartbeats 4000000 in
theorem RNew_any (room : Int) (w : World) : Calls Tryz.prog 26 #[.int .i64 room] w (RNewPost room w) := by
  by_cases h0 : room < 0
  · go_enter Tryz.func26, Tryz.ntmps26
    go_wp2
    go_ret2
    exact .inr ⟨fun h => by omega, rfl, Below.refl _ _⟩
  by_cases h1 : 16777216 < room
  · go_enter Tryz.func26, Tryz.ntmps26
    go_wp2
    go_ret2
    exact .inr ⟨fun h => by omega, rfl, Below.refl _ _⟩
  have hle : room ≤ 16777216 := by omega
  have hge : 0 ≤ room := by omega
  go_enter Tryz.func26, Tryz.ntmps26
  go_wp2
  go_ret2
  have hn := heap_alloc_new w (.cells #[.int .i64 room, .slice none 0 0, .slice none 0 0, .bool false, .int .i64 0, .int .i64 0, .int .i64 0] 67)
  refine .inl ⟨hge, hle, w.heap.size, rfl, ⟨none, 0, 0, .slice none 0 0, [], 0, 0, ⟨hn, fun h => absurd rfl h, ⟨⟨by decide, by decide⟩, ⟨by decide, by decide⟩⟩, FsF.nil_ _ _, World.ownsRow_nil _ _ _ _, trivial, rfl, (fun q hq => by cases hq), (fun e => by cases e), fun q hq => by rw [hq]; simp⟩⟩, Nat.le_refl _, ext_alloc _ _⟩
end Go.Proofs.YtjapeaoebjmpnaaGreatDoor
