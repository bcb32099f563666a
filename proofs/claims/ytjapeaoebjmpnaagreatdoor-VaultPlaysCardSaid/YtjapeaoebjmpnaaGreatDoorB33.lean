/- The walk of the reference's Do. Printed by gen_rd4.py. -/
import Derived.Test.YtjapeaoebjmpnaaGreatDoorB32
namespace Go.Proofs.YtjapeaoebjmpnaaGreatDoor
open Go.RowKit Go.Maps
set_option linter.unusedVariables false
set_option linter.unusedSimpArgs false
attribute [local go_sem] bmax2 bmin2 bmax_two bmin_two

/-- Bytes behind bytes of the call's own: one operation of a region. -/
theorem wp_appB {F : Nat → Prop} {w : World} {o : Oper} {a : Act} {K : Act → World → Prop} {Q : Exit → Act → World → Prop} (s x : Operand)
    (ho : o.op = .call { callee := .builtin .append, args := #[s, x], argTypes := #[23, 23] })
    (B : Nat) (v : Value) (n : Nat) (d0 : By) (hs : a.eval s = v) (hown : OwnB B w v n d0) (A : Option Addr) (m c : Nat) (d : By) (hx : a.eval x = .slice A m c) (hd : ByF F w A m c d)
    (hlen : n + m ≤ 140737488351232) (hB : B ≤ w.heap.size)
    (h : ∀ g' c' w', OwnB B w' (.slice (some ⟨g', 0, none⟩) (n + m) c') (n + m) (d0 ++ d) → Below B w w' → K (a.put o.dst (.slice (some ⟨g', 0, none⟩) (n + m) c')) w') : o.wp Tryz.prog a w K Q := by
  obtain ⟨hn, g0, c0, rfl, hr⟩ := hown
  have hm := hd.1
  have hraw := hd.raw
  have hc := hd.2.2.2.1
  cases A with
  | none =>
    have h0 := hraw.2.1 rfl
    have hc0 := hc rfl
    subst h0; subst hc0
    have hd0 : d = [] := List.eq_nil_of_length_eq_zero hm.symm
    subst hd0
    obtain ⟨i, hi, hz, hz1, hz2⟩ := info_parts info_u8
    have := h g0 c0 w (by rw [List.append_nil]; exact ⟨hn, g0, c0, rfl, hr⟩) (Below.refl _ _)
    have hrun := run_append_owned_none (P := Tryz.prog) (w := w) B 23 o.type 5 i 1 Tryz.underlying23 hi _ n _ hr
    unfold Oper.wp
    simp only [Nat.add_zero] at this
    simpa [execOp, ho, resolve, invoke, builtin, hs, hx, hrun, Result.andThen, Oper.upon] using this
  | some ad =>
    obtain ⟨i, hi, hz, hz1, hz2⟩ := info_parts info_u8
    refine wp_append_own w s x _ ho B 5 i (.int .u8 0) 1 1 Tryz.underlying23 hi hz hz1 hz2 rfl (by decide) _ n _ hs hr ad m c (u8s d) hx (by simp [u8s, hm]) (hraw.2.2 ad rfl) (u8s_mem d) (by unfold maxLen; omega) (by omega) hB fun v' w' h2 h3 h4 => ?_
    have hne : v' ≠ .slice none 0 0 := fun e => by have := (h4.1 e).1; cases this
    rcases h2.2 with ⟨e, -⟩ | ⟨g', cap, cur, rfl, hb, -⟩
    · exact absurd e hne
    refine h g' cap w' ⟨by simp [hn, hm], g', cap, rfl, by simpa [u8s] using h2⟩ ?_
    exact (Below.refl _ _).grown h3 hB fun q hq => (hr.lt q hq).1
theorem rcells5 {W : World} {b : Nat} {x0 x1 x2 x3 x4 : Value} {t : TypeId} (h : W.heap[b]? = some (.cells #[x0, x1, x2, x3, x4] t (0, 0))) :
    W.cell? ⟨b, 0, none⟩ = some x0 ∧ W.cell? ⟨b, 1, none⟩ = some x1 ∧ W.cell? ⟨b, 2, none⟩ = some x2 ∧ W.cell? ⟨b, 3, none⟩ = some x3 ∧ W.cell? ⟨b, 4, none⟩ = some x4 :=
  ⟨by simp [World.cell?, h], by simp [World.cell?, h], by simp [World.cell?, h], by simp [World.cell?, h], by simp [World.cell?, h]⟩
/-- What an act's cells say. -/
def RaK (h : RH) : ActS → Prop
  | .write n k _ => h.k = 0 ∧ h.nm = n ∧ h.at_ = (k : Int)
  | .trim n k => h.k = 1 ∧ h.nm = n ∧ h.at_ = (k : Int)
  | .move o n => h.k = 2 ∧ h.nm = o ∧ h.to_ = n
  | .drop n => h.k = 3 ∧ h.nm = n
def RaV (F : Nat → Prop) (w : World) (h : RH) (a : ActS) : Prop := RaK h a ∧ ByF F w h.a h.n h.c a.data
def RH.val (h : RH) : Value := .agg #[.int .i64 h.k, .string ⟨h.nm.toArray⟩, .string ⟨h.to_.toArray⟩, .int .i64 h.at_, .slice h.a h.n h.c]
theorem GetPost.old {F : Nat → Prop} {T : Tab} {nm : Nm} {w w' : World} {e : Ending} (h : GetPost F (tGet T nm) w e w') : ∃ a n c f, e = .returned (.tuple #[.slice a n c, .bool f]) ∧ ByF F w' a n c (tOld T nm) ∧ Ext w w' := by
  obtain ⟨hx, ⟨h1, h2⟩ | ⟨b, a, n, c, h1, h2, h3⟩⟩ := h
  · exact ⟨none, 0, 0, false, h2, by unfold tOld; rw [h1]; exact ByF.nil_ _ _, hx⟩
  exact ⟨a, n, c, true, h2, by unfold tOld; rw [h1]; exact h3, hx⟩
set_option maxRecDepth 100000 in
set_option maxHeartbeats 8000000 in
theorem RDo_drop {F G : Nat → Prop} {w : World} {a : Option Addr} {n c : Nat} {T : Tab} (h : FsF F w a n c T) (hT : T.length ≤ 5000) (hsz : tTot T ≤ 16777216) (nm tn : Nm) (AT : Int) {ba : Option Addr} {bn bc : Nat} :
    Calls Tryz.prog 101 #[.slice a n c, .agg #[.int .i64 3, .string ⟨nm.toArray⟩, .string ⟨tn.toArray⟩, .int .i64 AT, .slice ba bn bc]] w (FsPost (fun q => F q ∨ G q) ((ActS.drop nm).run T) w) := by
  have hol := Nat.le_trans (tOld_le T nm) hsz
  have hon : ∀ W, Ext w W → FsF F W a n c T := fun W hW => h.below hW
  have x1 := ext_alloc w (.cells #[.int .i64 3, .string ⟨nm.toArray⟩, .string ⟨tn.toArray⟩, .int .i64 AT, .slice ba bn bc] 124)
  have e1 := heap_alloc_new w (.cells #[.int .i64 3, .string ⟨nm.toArray⟩, .string ⟨tn.toArray⟩, .int .i64 AT, .slice ba bn bc] 124)
  have hgt := Rget_any (h.below x1) nm
  have HON := hid hon
  have HT := hid hT
  have HX1 := hid x1
  have hz1 : w.heap.size < (w.alloc (.cells #[.int .i64 3, .string ⟨nm.toArray⟩, .string ⟨tn.toArray⟩, .int .i64 AT, .slice ba bn bc] 124)).heap.size := by simp
  have HBC := hid (fun W (hW : Ext (w.alloc (.cells #[.int .i64 3, .string ⟨nm.toArray⟩, .string ⟨tn.toArray⟩, .int .i64 AT, .slice ba bn bc] 124)) W) => rcells5 ((hW.block w.heap.size hz1).trans e1))
  have HGT := hid hgt
  obtain ⟨old, hold⟩ : ∃ old, old = tOld T nm := ⟨_, rfl⟩
  rw [← hold] at hol
  have HOL := hid hold

  clear h hT hsz hon x1 e1 hgt hz1 hold
  go_enter Tryz.func101, Tryz.ntmps101
  have c1 := (HBC.out _ (Below.refl _ _)).2.1
  go_wp2_with fail
  refine Calls.mono HGT.out ?_
  rintro e w2 hp
  obtain ⟨ra, rn, rc, f, rfl, hby, hx2⟩ := hp.old
  rw [← HOL.out] at hby
  have HBY := hid hby
  have HX2 := hid (HX1.out.trans' hx2)
  have HC := hid (fun W (hW : Ext w2 W) => HBC.out W (hx2.trans' hW))
  have hrn : rn ≤ 16777216 := by have := hby.1; omega
  obtain ⟨c0, c1, c2, c3, c4⟩ := HC.out w2 (Below.refl _ _)
  clear hp hby hx2 HGT HBC HX1
  have hle := Rless_any (HON.out w2 HX2.out) (by have := HT.out; omega) nm
  have HLE := hid hle
  clear hle
  go_wp2_with fail
  refine Calls.mono HLE.out ?_
  rintro e w3 ⟨a3, n3, c3, rfl, hf, hx3⟩
  have HF := hid hf
  have HX3 := hid (HX2.out.trans' hx3)
  have hz := HX2.out.size
  clear hf hx3
  go_wp2
  go_ret
  exact ⟨a3, n3, c3, rfl, HF.out.more fun q hq => by
    rcases hq with hq | hq
    · exact .inl (.inl hq)
    exact .inr ⟨by have := hq.1; omega, hq.2⟩, HX3.out⟩
set_option maxRecDepth 100000 in
set_option maxHeartbeats 8000000 in
theorem RDo_trim {F G : Nat → Prop} {w : World} {a : Option Addr} {n c : Nat} {T : Tab} (h : FsF F w a n c T) (hT : T.length ≤ 5000) (hsz : tTot T ≤ 16777216) (nm tn : Nm) (k : Nat) (hk : k ≤ (tOld T nm).length) {ba : Option Addr} {bn bc : Nat} :
    Calls Tryz.prog 101 #[.slice a n c, .agg #[.int .i64 1, .string ⟨nm.toArray⟩, .string ⟨tn.toArray⟩, .int .i64 (k : Int), .slice ba bn bc]] w (FsPost (fun q => F q ∨ G q) ((ActS.trim nm k).run T) w) := by
  have hol := Nat.le_trans (tOld_le T nm) hsz
  have hon : ∀ W, Ext w W → FsF F W a n c T := fun W hW => h.below hW
  have x1 := ext_alloc w (.cells #[.int .i64 1, .string ⟨nm.toArray⟩, .string ⟨tn.toArray⟩, .int .i64 (k : Int), .slice ba bn bc] 124)
  have e1 := heap_alloc_new w (.cells #[.int .i64 1, .string ⟨nm.toArray⟩, .string ⟨tn.toArray⟩, .int .i64 (k : Int), .slice ba bn bc] 124)
  have hgt := Rget_any (h.below x1) nm
  have HON := hid hon
  have HT := hid hT
  have HX1 := hid x1
  have hz1 : w.heap.size < (w.alloc (.cells #[.int .i64 1, .string ⟨nm.toArray⟩, .string ⟨tn.toArray⟩, .int .i64 (k : Int), .slice ba bn bc] 124)).heap.size := by simp
  have HBC := hid (fun W (hW : Ext (w.alloc (.cells #[.int .i64 1, .string ⟨nm.toArray⟩, .string ⟨tn.toArray⟩, .int .i64 (k : Int), .slice ba bn bc] 124)) W) => rcells5 ((hW.block w.heap.size hz1).trans e1))
  have HGT := hid hgt
  obtain ⟨old, hold⟩ : ∃ old, old = tOld T nm := ⟨_, rfl⟩
  rw [← hold] at hol
  have HOL := hid hold
  have hk2 : k ≤ old.length := by rw [hold]; exact hk
  have hkl : k ≤ 16777216 := by omega
  clear hk
  clear h hT hsz hon x1 e1 hgt hz1 hold
  go_enter Tryz.func101, Tryz.ntmps101
  have c1 := (HBC.out _ (Below.refl _ _)).2.1
  go_wp2_with fail
  refine Calls.mono HGT.out ?_
  rintro e w2 hp
  obtain ⟨ra, rn, rc, f, rfl, hby, hx2⟩ := hp.old
  rw [← HOL.out] at hby
  have HBY := hid hby
  have HX2 := hid (HX1.out.trans' hx2)
  have HC := hid (fun W (hW : Ext w2 W) => HBC.out W (hx2.trans' hW))
  have hrn : rn ≤ 16777216 := by have := hby.1; omega
  obtain ⟨c0, c1, c2, c3, c4⟩ := HC.out w2 (Below.refl _ _)
  clear hp hby hx2 HGT HBC HX1
  obtain ⟨a1, m1, k1, u1, u2, hb1⟩ := cut_h HBY.out (k : Int) (by omega) (by have := HBY.out.1; omega)
  rw [Int.toNat_natCast] at hb1
  have hm1 : m1 ≤ 16777216 := by have h1 := hb1.1; rw [List.length_take] at h1; omega
  have HB1 := hid hb1
  clear hb1
  go_wp2
  have y0 : Ext w2 w2.drew := ext_drew w2
  refine wp_region_held_drew (S := fun W => Ext w2 W) (by kernel_rfl) y0 (fun hH => ?_)
  clear hH c0 c1 c2 c3 c4
  obtain ⟨wd, hwd⟩ : ∃ wd, wd = w2.drew := ⟨_, rfl⟩
  rw [← hwd] at y0 ⊢
  clear hwd
  refine hr_ 0 (.slice a n c) rfl y0 (fun W hW => ?_) ?_
  · (clear hW; go_simp)
  try simp only [Act.put, sA_, s0_, sS_]
  refine hr_ 1 (.pointer (some ⟨w.heap.size, 1, none⟩)) rfl y0 (fun W hW => ?_) ?_
  · (clear hW; go_simp)
  try simp only [Act.put, sA_, s0_, sS_]
  refine hr_ 2 (.string ⟨nm.toArray⟩) rfl y0 (fun W hW => ?_) ?_
  · (obtain ⟨c0, c1, c2, c3, c4⟩ := HC.out W hW; clear hW; go_simp)
  try simp only [Act.put, sA_, s0_, sS_]
  refine hr_ 4 (.slice ra rn rc) rfl y0 (fun W hW => ?_) ?_
  · (clear hW; go_simp)
  try simp only [Act.put, sA_, s0_, sS_]
  refine hr_ 5 (.pointer (some ⟨w.heap.size, 3, none⟩)) rfl y0 (fun W hW => ?_) ?_
  · (clear hW; go_simp)
  try simp only [Act.put, sA_, s0_, sS_]
  refine hr_ 6 (.int .i64 (k : Int)) rfl y0 (fun W hW => ?_) ?_
  · (obtain ⟨c0, c1, c2, c3, c4⟩ := HC.out W hW; clear hW; go_simp)
  try simp only [Act.put, sA_, s0_, sS_]
  refine hr_ 7 (.slice a1 m1 k1) rfl y0 (fun W hW => ?_) ?_
  · (clear hW; go_simp)
  try simp only [Act.put, sA_, s0_, sS_]
  refine hc_ 3 rfl (fun K hK => ?_)
  go_simp
  have HO3 := hid (ownB_made wd w2.heap.size y0.size)
  have y1 : Ext w2 (wd.alloc (.cells #[] 5)) := y0.trans' (ext_alloc _ _)
  generalize wd.alloc (.cells #[] 5) = w3 at *
  refine hK.out _ _ y1 (fun hH => ?_)
  clear hK K y0 hH
  have y0 := y1
  clear y1
  try simp only [Act.put, sA_, s0_, sS_]
  refine hc_ 8 rfl (fun K hK => ?_)
  rw [if_pos (by rfl)]
  refine wp_appB (.tmp 58) (.tmp 62) rfl w2.heap.size _ 0 [] rfl HO3.out a1 m1 k1 _ rfl (HB1.out.below y0) (by omega) y0.size ?_
  intro g4 c4 w4 hown4 hx4
  have HO4 := hid (OwnB.zero hown4)
  have y1 : Ext w2 w4 := y0.trans hx4
  clear hown4 hx4
  refine hK.out _ _ y1 (fun hH => ?_)
  clear hK K y0 hH
  have y0 := y1
  clear y1
  try simp only [Act.put, sA_, s0_, sS_]
  rw [Nat.zero_add]
  refine hc_ 9 rfl (fun K hK => ?_)
  go_simp
  go_at_call 125
  refine Calls.mono (Rwith_any (HON.out _ (HX2.out.trans' y0)) (by have := HT.out; omega) nm (HO4.out.by_ (by omega))) ?_
  rintro e w5 ⟨a5, n5, c5, rfl, hf, hx5⟩
  have y1 : Ext w2 w5 := y0.trans' hx5
  have HF := hid hf
  have HZ := hid (show w2.heap.size ≤ w4.heap.size ∧ w4.heap.size ≤ w5.heap.size from ⟨y0.size, hx5.size⟩)
  clear hf hx5
  go_wp2_with fail
  refine hK.out _ _ y1 (fun hH => ?_)
  clear hK K y0 hH
  have y0 := y1
  clear y1
  try simp only [Act.put, sA_, s0_, sS_]
  refine hr_ 10 (.slice a5 n5 c5) rfl y0 (fun W hW => ?_) ?_
  · (clear hW; go_simp)
  try simp only [Act.put, sA_, s0_, sS_]
  refine wpAnyH_done (by kernel_rfl) ?_ _
  have hz := HX2.out.size
  go_wp2
  go_ret
  refine ⟨a5, n5, c5, rfl, ?_, HX2.out.trans' y0⟩
  have hf := HF.out
  rw [HOL.out] at hf
  exact hf.more fun q hq => by
    have h1 := HZ.out
    rcases hq with (hq | hq) | hq
    · exact .inl (.inl hq)
    · exact .inr ⟨by have := hq.1; omega, by have := hq.2; omega⟩
    exact .inr ⟨by have := hq.1; omega, hq.2⟩
set_option maxRecDepth 100000 in
set_option maxHeartbeats 8000000 in
theorem RDo_move {F G : Nat → Prop} {w : World} {a : Option Addr} {n c : Nat} {T : Tab} (h : FsF F w a n c T) (hT : T.length ≤ 5000) (hsz : tTot T ≤ 16777216) (nm tn : Nm) (AT : Int) {ba : Option Addr} {bn bc : Nat} :
    Calls Tryz.prog 101 #[.slice a n c, .agg #[.int .i64 2, .string ⟨nm.toArray⟩, .string ⟨tn.toArray⟩, .int .i64 AT, .slice ba bn bc]] w (FsPost (fun q => F q ∨ G q) ((ActS.move nm tn).run T) w) := by
  have hol := Nat.le_trans (tOld_le T nm) hsz
  have hon : ∀ W, Ext w W → FsF F W a n c T := fun W hW => h.below hW
  have x1 := ext_alloc w (.cells #[.int .i64 2, .string ⟨nm.toArray⟩, .string ⟨tn.toArray⟩, .int .i64 AT, .slice ba bn bc] 124)
  have e1 := heap_alloc_new w (.cells #[.int .i64 2, .string ⟨nm.toArray⟩, .string ⟨tn.toArray⟩, .int .i64 AT, .slice ba bn bc] 124)
  have hgt := Rget_any (h.below x1) nm
  have HON := hid hon
  have HT := hid hT
  have HX1 := hid x1
  have hz1 : w.heap.size < (w.alloc (.cells #[.int .i64 2, .string ⟨nm.toArray⟩, .string ⟨tn.toArray⟩, .int .i64 AT, .slice ba bn bc] 124)).heap.size := by simp
  have HBC := hid (fun W (hW : Ext (w.alloc (.cells #[.int .i64 2, .string ⟨nm.toArray⟩, .string ⟨tn.toArray⟩, .int .i64 AT, .slice ba bn bc] 124)) W) => rcells5 ((hW.block w.heap.size hz1).trans e1))
  have HGT := hid hgt
  obtain ⟨old, hold⟩ : ∃ old, old = tOld T nm := ⟨_, rfl⟩
  rw [← hold] at hol
  have HOL := hid hold

  clear h hT hsz hon x1 e1 hgt hz1 hold
  go_enter Tryz.func101, Tryz.ntmps101
  have c1 := (HBC.out _ (Below.refl _ _)).2.1
  go_wp2_with fail
  refine Calls.mono HGT.out ?_
  rintro e w2 hp
  obtain ⟨ra, rn, rc, f, rfl, hby, hx2⟩ := hp.old
  rw [← HOL.out] at hby
  have HBY := hid hby
  have HX2 := hid (HX1.out.trans' hx2)
  have HC := hid (fun W (hW : Ext w2 W) => HBC.out W (hx2.trans' hW))
  have hrn : rn ≤ 16777216 := by have := hby.1; omega
  obtain ⟨c0, c1, c2, c3, c4⟩ := HC.out w2 (Below.refl _ _)
  clear hp hby hx2 HGT HBC HX1
  have HLE := hid (fun W (hW : Ext w2 W) => Rless_any (HON.out W (HX2.out.trans' hW)) (by have := HT.out; omega) nm)
  go_wp2
  have y0 : Ext w2 w2.drew := ext_drew w2
  refine wp_region_held_drew (S := fun W => Ext w2 W) (by kernel_rfl) y0 (fun hH => ?_)
  clear hH c0 c1 c2 c3 c4
  obtain ⟨wd, hwd⟩ : ∃ wd, wd = w2.drew := ⟨_, rfl⟩
  rw [← hwd] at y0 ⊢
  clear hwd
  refine hr_ 0 (.slice a n c) rfl y0 (fun W hW => ?_) ?_
  · (clear hW; go_simp)
  try simp only [Act.put, sA_, s0_, sS_]
  refine hr_ 1 (.pointer (some ⟨w.heap.size, 1, none⟩)) rfl y0 (fun W hW => ?_) ?_
  · (clear hW; go_simp)
  try simp only [Act.put, sA_, s0_, sS_]
  refine hr_ 2 (.string ⟨nm.toArray⟩) rfl y0 (fun W hW => ?_) ?_
  · (obtain ⟨c0, c1, c2, c3, c4⟩ := HC.out W hW; clear hW; go_simp)
  try simp only [Act.put, sA_, s0_, sS_]
  refine hr_ 4 (.pointer (some ⟨w.heap.size, 2, none⟩)) rfl y0 (fun W hW => ?_) ?_
  · (clear hW; go_simp)
  try simp only [Act.put, sA_, s0_, sS_]
  refine hr_ 5 (.string ⟨tn.toArray⟩) rfl y0 (fun W hW => ?_) ?_
  · (obtain ⟨c0, c1, c2, c3, c4⟩ := HC.out W hW; clear hW; go_simp)
  try simp only [Act.put, sA_, s0_, sS_]
  refine hr_ 6 (.slice ra rn rc) rfl y0 (fun W hW => ?_) ?_
  · (clear hW; go_simp)
  try simp only [Act.put, sA_, s0_, sS_]
  refine hc_ 3 rfl (fun K hK => ?_)
  go_simp
  go_at_call 126
  refine Calls.mono (HLE.out _ y0) ?_
  rintro e w3 ⟨a3, n3, c3, rfl, hf, hx3⟩
  have y1 : Ext w2 w3 := y0.trans' hx3
  have HF3 := hid hf
  have HZ3 := hid (show w2.heap.size ≤ w3.heap.size from y1.size)
  have HZ0 := hid y0.size
  clear hf hx3
  go_wp2_with fail
  refine hK.out _ _ y1 (fun hH => ?_)
  clear hK K y0 hH
  have y0 := y1
  clear y1
  try simp only [Act.put, sA_, s0_, sS_]
  refine hc_ 7 rfl (fun K hK => ?_)
  go_simp
  go_at_call 125
  refine Calls.mono (Rwith_any HF3.out (by have := HT.out; have := tDel_len T nm; omega) tn (HBY.out.below y0)) ?_
  rintro e w5 ⟨a5, n5, c5, rfl, hf, hx5⟩
  have y1 : Ext w2 w5 := y0.trans' hx5
  have HF := hid hf
  have HZ := hid (show w3.heap.size ≤ w5.heap.size from hx5.size)
  clear hf hx5
  go_wp2_with fail
  refine hK.out _ _ y1 (fun hH => ?_)
  clear hK K y0 hH
  have y0 := y1
  clear y1
  try simp only [Act.put, sA_, s0_, sS_]
  refine hr_ 8 (.slice a5 n5 c5) rfl y0 (fun W hW => ?_) ?_
  · (clear hW; go_simp)
  try simp only [Act.put, sA_, s0_, sS_]
  refine wpAnyH_done (by kernel_rfl) ?_ _
  have hz := HX2.out.size
  go_wp2
  go_ret
  refine ⟨a5, n5, c5, rfl, ?_, HX2.out.trans' y0⟩
  have hf := HF.out
  rw [HOL.out] at hf
  exact hf.more fun q hq => by
    have h1 := HZ.out
    have h2 := HZ3.out
    have h3 := HZ0.out
    rcases hq with ((hq | hq) | hq) | hq
    · exact .inl (.inl hq)
    · exact .inr ⟨by have := hq.1; omega, by have := hq.2; omega⟩
    · exact .inl (.inl hq)
    exact .inr ⟨by have := hq.1; omega, hq.2⟩
set_option maxRecDepth 100000 in
set_option maxHeartbeats 8000000 in
theorem RDo_write {F G : Nat → Prop} {w : World} {a : Option Addr} {n c : Nat} {T : Tab} (h : FsF F w a n c T) (hT : T.length ≤ 5000) (hsz : tTot T ≤ 16777216) (nm tn : Nm) (k : Nat) (hk : k ≤ (tOld T nm).length) {ba : Option Addr} {bn bc : Nat} {b : By} (hb : ByF G w ba bn bc b) (hbl : b.length ≤ 16777216) :
    Calls Tryz.prog 101 #[.slice a n c, .agg #[.int .i64 0, .string ⟨nm.toArray⟩, .string ⟨tn.toArray⟩, .int .i64 (k : Int), .slice ba bn bc]] w (FsPost (fun q => F q ∨ G q) ((ActS.write nm k b).run T) w) := by
  have hol := Nat.le_trans (tOld_le T nm) hsz
  have hon : ∀ W, Ext w W → FsF F W a n c T := fun W hW => h.below hW
  have x1 := ext_alloc w (.cells #[.int .i64 0, .string ⟨nm.toArray⟩, .string ⟨tn.toArray⟩, .int .i64 (k : Int), .slice ba bn bc] 124)
  have e1 := heap_alloc_new w (.cells #[.int .i64 0, .string ⟨nm.toArray⟩, .string ⟨tn.toArray⟩, .int .i64 (k : Int), .slice ba bn bc] 124)
  have hgt := Rget_any (h.below x1) nm
  have HON := hid hon
  have HT := hid hT
  have HX1 := hid x1
  have hz1 : w.heap.size < (w.alloc (.cells #[.int .i64 0, .string ⟨nm.toArray⟩, .string ⟨tn.toArray⟩, .int .i64 (k : Int), .slice ba bn bc] 124)).heap.size := by simp
  have HBC := hid (fun W (hW : Ext (w.alloc (.cells #[.int .i64 0, .string ⟨nm.toArray⟩, .string ⟨tn.toArray⟩, .int .i64 (k : Int), .slice ba bn bc] 124)) W) => rcells5 ((hW.block w.heap.size hz1).trans e1))
  have HGT := hid hgt
  obtain ⟨old, hold⟩ : ∃ old, old = tOld T nm := ⟨_, rfl⟩
  rw [← hold] at hol
  have HOL := hid hold
  have hk2 : k ≤ old.length := by rw [hold]; exact hk
  have hkl : k ≤ 16777216 := by omega
  have hbn : bn ≤ 16777216 := by rw [hb.1]; exact hbl
  have HBB := hid hb
  clear hk hb hbl
  clear h hT hsz hon x1 e1 hgt hz1 hold
  go_enter Tryz.func101, Tryz.ntmps101
  have c1 := (HBC.out _ (Below.refl _ _)).2.1
  go_wp2_with fail
  refine Calls.mono HGT.out ?_
  rintro e w2 hp
  obtain ⟨ra, rn, rc, f, rfl, hby, hx2⟩ := hp.old
  rw [← HOL.out] at hby
  have HBY := hid hby
  have HX2 := hid (HX1.out.trans' hx2)
  have HC := hid (fun W (hW : Ext w2 W) => HBC.out W (hx2.trans' hW))
  have hrn : rn ≤ 16777216 := by have := hby.1; omega
  obtain ⟨c0, c1, c2, c3, c4⟩ := HC.out w2 (Below.refl _ _)
  clear hp hby hx2 HGT HBC HX1
  obtain ⟨a1, m1, k1, u1, u2, hb1⟩ := cut_h HBY.out (k : Int) (by omega) (by have := HBY.out.1; omega)
  rw [Int.toNat_natCast] at hb1
  have hm1 : m1 = k := by have h1 := hb1.1; rw [List.length_take] at h1; omega
  subst hm1
  have HB1 := hid hb1
  have HBB2 := hid (HBB.out.below HX2.out)
  have HK2 := hid hk2
  clear hb1 hk2
  go_wp2
  have y0 : Ext w2 w2.drew := ext_drew w2
  refine wp_region_held_drew (S := fun W => Ext w2 W) (by kernel_rfl) y0 (fun hH => ?_)
  clear hH c0 c1 c2 c3 c4
  obtain ⟨wd, hwd⟩ : ∃ wd, wd = w2.drew := ⟨_, rfl⟩
  rw [← hwd] at y0 ⊢
  clear hwd
  refine hr_ 1 (.slice ra rn rc) rfl y0 (fun W hW => ?_) ?_
  · (clear hW; go_simp)
  try simp only [Act.put, sA_, s0_, sS_]
  refine hr_ 2 (.pointer (some ⟨w.heap.size, 3, none⟩)) rfl y0 (fun W hW => ?_) ?_
  · (clear hW; go_simp)
  try simp only [Act.put, sA_, s0_, sS_]
  refine hr_ 3 (.int .i64 (m1 : Int)) rfl y0 (fun W hW => ?_) ?_
  · (obtain ⟨c0, c1, c2, c3, c4⟩ := HC.out W hW; clear hW; go_simp)
  try simp only [Act.put, sA_, s0_, sS_]
  refine hr_ 4 (.slice a1 m1 k1) rfl y0 (fun W hW => ?_) ?_
  · (clear hW; go_simp)
  try simp only [Act.put, sA_, s0_, sS_]
  refine hr_ 6 (.pointer (some ⟨w.heap.size, 4, none⟩)) rfl y0 (fun W hW => ?_) ?_
  · (clear hW; go_simp)
  try simp only [Act.put, sA_, s0_, sS_]
  refine hr_ 7 (.slice ba bn bc) rfl y0 (fun W hW => ?_) ?_
  · (obtain ⟨c0, c1, c2, c3, c4⟩ := HC.out W hW; clear hW; go_simp)
  try simp only [Act.put, sA_, s0_, sS_]
  refine hc_ 0 rfl (fun K hK => ?_)
  go_simp
  have HO3 := hid (ownB_made wd w2.heap.size y0.size)
  have y1 : Ext w2 (wd.alloc (.cells #[] 5)) := y0.trans' (ext_alloc _ _)
  generalize wd.alloc (.cells #[] 5) = w3 at *
  refine hK.out _ _ y1 (fun hH => ?_)
  clear hK K y0 hH
  have y0 := y1
  clear y1
  try simp only [Act.put, sA_, s0_, sS_]
  refine hc_ 5 rfl (fun K hK => ?_)
  rw [if_pos (by rfl)]
  refine wp_appB (.tmp 24) (.tmp 28) rfl w2.heap.size _ 0 [] rfl HO3.out a1 m1 k1 _ rfl (HB1.out.below y0) (by omega) y0.size ?_
  intro g4 c4 w4 hown4 hx4
  have HO4 := hid (OwnB.zero hown4)
  have y1 : Ext w2 w4 := y0.trans hx4
  clear hown4 hx4
  refine hK.out _ _ y1 (fun hH => ?_)
  clear hK K y0 hH
  have y0 := y1
  clear y1
  try simp only [Act.put, sA_, s0_, sS_]
  rw [Nat.zero_add]
  refine hc_ 8 rfl (fun K hK => ?_)
  rw [if_pos (by rfl)]
  refine wp_appB (.tmp 29) (.tmp 31) rfl w2.heap.size _ m1 _ rfl HO4.out ba bn bc b rfl (HBB2.out.below y0) (by omega) y0.size ?_
  intro g5 c5 w5 hown5 hx5
  have HO5 := hid hown5
  have y1 : Ext w2 w5 := y0.trans hx5
  clear hown5 hx5
  refine hK.out _ _ y1 (fun hH => ?_)
  clear hK K y0 hH
  have y0 := y1
  clear y1
  try simp only [Act.put, sA_, s0_, sS_]
  refine hr_ 9 (.slice (some ⟨g5, 0, none⟩) (m1 + bn) c5) rfl y0 (fun W hW => ?_) ?_
  · (clear hW; go_simp)
  try simp only [Act.put, sA_, s0_, sS_]
  refine wpAnyH_done (by kernel_rfl) ?_ _
  have HX5 := hid y0
  have HBN := hid HBB.out.1
  have HRN := hid HBY.out.1
  obtain ⟨m0, hm0⟩ : ∃ m0, m0 = m1 + bn := ⟨_, rfl⟩
  rw [← hm0] at HO5 ⊢
  have hm0l : m0 ≤ 33554432 := by omega
  have HM0 := hid hm0
  have hm0i : IntKind.i64.wrap (m0 : Int) = (m0 : Int) := IntWalk.i64_in _ ⟨by omega, by omega⟩
  clear y0 hm0
  go_wp2
  go_loopw [7, 8] (fun v z wr => ∃ (t : Nat) (g c : Nat), z = .int .i64 ((m0 + t : Nat) : Int) ∧ v = .slice (some ⟨g, 0, none⟩) (m0 + t) c ∧ (t = 0 ∨ m0 + t ≤ rn) ∧ Hid (OwnB w2.heap.size wr (.slice (some ⟨g, 0, none⟩) (m0 + t) c) (m0 + t) ((old.take m1 ++ b) ++ (old.drop m0).take t)) ∧ Hid (Ext w2 wr)) (fun _ z _ => rn - (intOf z).toNat)
  case atStart => exact ⟨0, g5, c5, by simp, rfl, .inl rfl, hid (by rw [List.take_zero, List.append_nil]; exact HO5.out), HX5.out⟩
  obtain ⟨t, g, cc, rfl, rfl, ht, HO, HX⟩ := hrel
  obtain ⟨i, hi⟩ : ∃ i, i = m0 + t := ⟨_, rfl⟩
  rw [← hi] at HO ht ⊢
  have hil : i ≤ 33554432 := by omega
  by_cases hlt : i < rn
  · obtain ⟨b0, o0, rfl, -, hbl0, hkl, q⟩ := (HBY.out.below HX.out).at_ hlt
    have htk : (old.drop m0).take (t + 1) = (old.drop m0).take t ++ [old[i]] := by
      have h1 : t < (old.drop m0).length := by rw [List.length_drop]; omega
      rw [List.take_succ_eq_append_getElem h1, List.getElem_drop]
      simp only [← hi]
    have HTK := hid htk
    generalize old[i] = x at *
    have hii : (i : Int) < (rn : Int) := by omega
    have hii0 : (0 : Int) ≤ (i : Int) := by omega
    have HI := hid hi
    have x2 := ext_alloc wr (.cells #[.int .u8 (x.toNat : Int)] 5)
    have HX2b := hid (HX.out.trans' x2)
    have HO2 := hid (HO.out.ext x2)
    have HB2 := hid (by_one wr x 5)
    clear htk hi x2
    go_wp2_with (at_builtin; refine wpList_appB rfl (.tmp 41) (.tmp 46) rfl w2.heap.size _ i _ rfl HO2.out (some ⟨wr.heap.size, 0, none⟩) 1 1 [x] rfl HB2.out (by omega) HX2b.out.size ?_; intro g6 c6 w6 hown6 hx6; have HO6 := hid hown6; have HX6 := hid (show Ext w2 w6 from HX2b.out.trans hx6); clear hown6 hx6)
    go_roundw
    case rel => exact ⟨t + 1, g6, c6, by have := HI.out; go_num, by rw [HI.out]; rfl, .inr (by have := HI.out; omega), hid (by
      have h6 := HO6.out
      rw [List.append_assoc, ← HTK.out, HI.out] at h6
      exact h6), HX6.out⟩
    case measure => simp [intOf]; omega
  have hwr : (old.take m1 ++ b) ++ (old.drop m0).take t = wrB old m1 b := by
    unfold wrB
    have hbn' := HBN.out
    have hm0' := HM0.out
    have hrn' := HRN.out
    rw [show m1 + b.length = m0 by omega]
    congr 1
    refine List.take_of_length_le ?_
    rw [List.length_drop]
    omega
  have hge : ¬ (i : Int) < (rn : Int) := by omega
  rw [hwr] at HO
  clear hwr hi
  have HWI := hid (Rwith_any (HON.out _ (HX2.out.trans' HX.out)) (by have := HT.out; omega) nm (HO.out.by_ (by omega)))
  obtain ⟨c0, c1, c2, c3, c4⟩ := HC.out wr HX.out
  go_wp2_with fail
  refine Calls.mono HWI.out ?_
  rintro e w7 ⟨a7, n7, c7, rfl, hf, hx7⟩
  have HF := hid hf
  have HX7 := hid (HX2.out.trans' (HX.out.trans' hx7))
  have HZ := hid (show w.heap.size ≤ w2.heap.size ∧ wr.heap.size ≤ w7.heap.size from ⟨HX2.out.size, hx7.size⟩)
  have HZW := hid HX.out.size
  clear hf hx7
  go_wp2
  go_ret
  refine ⟨a7, n7, c7, rfl, ?_, HX7.out⟩
  have hf := HF.out
  rw [HOL.out] at hf
  exact hf.more fun q hq => by
    have h1 := HZ.out
    have h2 := HZW.out
    rcases hq with (hq | hq) | hq
    · exact .inl (.inl hq)
    · exact .inr ⟨by have := hq.1; omega, by have := hq.2; omega⟩
    exact .inr ⟨by have := hq.1; omega, hq.2⟩
theorem RDo_any {F G : Nat → Prop} {w : World} {a : Option Addr} {n c : Nat} {T : Tab} (h : FsF F w a n c T) (hT : T.length ≤ 5000) (hsz : tTot T ≤ 16777216) {x : RH} {act : ActS} (hx : RaV G w x act) (hfit : act.Fits T) (hd : act.data.length ≤ 16777216) :
    Calls Tryz.prog 101 #[.slice a n c, x.val] w (FsPost (fun q => F q ∨ G q) (act.run T) w) := by
  obtain ⟨xk, xn, xt, xa, ba, bn, bc⟩ := x
  obtain ⟨h1, h2⟩ := hx
  unfold RH.val
  cases act with
  | write nm k b =>
    obtain ⟨e1, e2, e3⟩ := h1
    dsimp only at e1 e2 e3 h2 ⊢
    subst e1; subst e2; subst e3
    exact RDo_write h hT hsz _ xt k hfit.2.1 h2 hd
  | trim nm k =>
    obtain ⟨e1, e2, e3⟩ := h1
    dsimp only at e1 e2 e3 h2 ⊢
    subst e1; subst e2; subst e3
    exact RDo_trim h hT hsz _ xt k hfit.2.2
  | move nm k =>
    obtain ⟨e1, e2, e3⟩ := h1
    dsimp only at e1 e2 e3 h2 ⊢
    subst e1; subst e2; subst e3
    exact RDo_move h hT hsz _ _ xa
  | drop nm =>
    obtain ⟨e1, e2⟩ := h1
    dsimp only at e1 e2 h2 ⊢
    subst e1; subst e2
    exact RDo_drop h hT hsz _ xt xa
end Go.Proofs.YtjapeaoebjmpnaaGreatDoor

/- The walk of the reference's Name. -/
namespace Go.Proofs.YtjapeaoebjmpnaaGreatDoor
open Go.RowKit Go.Maps
set_option linter.unusedVariables false
set_option linter.unusedSimpArgs false
attribute [local go_sem] bmax2 bmin2 bmax_two bmin_two

set_option maxRecDepth 100000 in
set_option maxHeartbeats 4000000 in
theorem RName_any (w : World) (n : Nm) (hn : n.length ≤ maxLen) :
    Calls Tryz.prog 100 #[.string ⟨n.toArray⟩] w (fun e w' => e = .returned (.bool (mayS n)) ∧ w' = w) := by
  have hn63 : n.length ≤ 9223372036854775807 := by unfold maxLen at hn; omega
  have HMS := hid (show mayS n = (decide (1 ≤ n.length) && decide (n.length ≤ 32) && n.all okC) from rfl)
  clear hn
  obtain ⟨m, hm⟩ : ∃ m, m = n.length := ⟨_, rfl⟩
  have HM := hid hm
  go_enter Tryz.func100, Tryz.ntmps100
  go_wp2
  go_loop [3, 4, 7] (fun _ _ z => ∃ j : Nat, j ≤ n.length ∧ z = .int .i64 (j : Int) ∧ Hid ((n.take j).all okC = true)) (fun _ _ z => n.length - (intOf z).toNat)
  case atStart => exact ⟨0, by omega, rfl, rfl⟩
  obtain ⟨j, hj, rfl, HJ⟩ := hrel
  by_cases hlt : j < n.length
  · have hji : (j : Int) < (n.length : Int) := by omega
    have hji0 : (0 : Int) ≤ (j : Int) := by omega
    have hix0 : n[j] = n[j] := rfl
    obtain ⟨xn, hxn⟩ : ∃ xn, xn = n[j].toNat := ⟨_, rfl⟩
    have hix : ∀ h, ((⟨n.toArray⟩ : ByteArray)[j]'h).toNat = xn := fun h => by rw [hxn]; rfl
    have hxl : xn < 256 := by rw [hxn]; exact UInt8.toNat_lt _
    have hok := okC_iff n[j]
    rw [← hxn] at hok
    have htk : (n.take (j + 1)).all okC = ((n.take j).all okC && okC n[j]) := by
      rw [List.take_succ_eq_append_getElem hlt, List.all_append, List.all_cons, List.all_nil, Bool.and_true]
    have hin : n.all okC = false ∨ okC n[j] = true := by
      cases h : okC n[j] with
      | true => exact .inr rfl
      | false =>
        left
        rw [List.all_eq_false]
        exact ⟨n[j], List.getElem_mem hlt, by rw [h]; simp⟩
    have HOK := hid hok
    have HTK := hid htk
    have HIN := hid hin
    have HLT := hid hlt
    generalize okC n[j] = ok at *
    clear hok htk hin hxn hix0 hlt
    have hcase : xn = 46 ∨ (48 ≤ xn ∧ xn ≤ 57) ∨ (97 ≤ xn ∧ xn ≤ 122) ∨ xn < 46 ∨ xn = 47 ∨ (57 < xn ∧ xn < 97) ∨ 122 < xn := by omega
    rcases hcase with c | ⟨c, c'⟩ | ⟨c, c'⟩ | c | c | ⟨c, c'⟩ | c
    · subst c
      have ho : ok = true := by rw [HOK.out]; rfl
      subst ho
      clear HOK
      go_wp2
      go_round
      case rel => exact ⟨j + 1, by have := HLT.out; omega, by go_num, by rw [HTK.out, HJ.out]; rfl⟩
      case measure => simp [intOf]; have := HLT.out; omega
    · have ho : ok = true := by rw [HOK.out]; simp; omega
      have e0 : ((xn : Int) == 46) = false := by simp; omega
      have e1 : (48 : Int) ≤ (xn : Int) := by omega
      have e2 : (xn : Int) ≤ 57 := by omega
      subst ho
      clear HOK c c'
      go_wp2
      go_round
      case rel => exact ⟨j + 1, by have := HLT.out; omega, by go_num, by rw [HTK.out, HJ.out]; rfl⟩
      case measure => simp [intOf]; have := HLT.out; omega
    · have ho : ok = true := by rw [HOK.out]; simp; omega
      have e0 : ((xn : Int) == 46) = false := by simp; omega
      have e1 : (48 : Int) ≤ (xn : Int) := by omega
      have e2 : ¬ (xn : Int) ≤ 57 := by omega
      have e3 : (97 : Int) ≤ (xn : Int) := by omega
      have e4 : (xn : Int) ≤ 122 := by omega
      subst ho
      clear HOK c c'
      go_wp2
      go_round
      case rel => exact ⟨j + 1, by have := HLT.out; omega, by go_num, by rw [HTK.out, HJ.out]; rfl⟩
      case measure => simp [intOf]; have := HLT.out; omega
    all_goals
      have ho : ok = false := by rw [HOK.out]; simp; omega
      have HF := hid (show mayS n = false by
        rw [HMS.out]
        rcases HIN.out with h | h
        · rw [h]; simp
        rw [ho] at h; cases h)
      have e0 : ((xn : Int) == 46) = false := by simp; omega
      clear HOK ho HTK HIN HJ HMS
    · have e1 : ¬ (48 : Int) ≤ (xn : Int) := by omega
      have e3 : ¬ (97 : Int) ≤ (xn : Int) := by omega
      clear c
      go_wp2
      go_ret
      exact ⟨by rw [HF.out]; rfl, rfl⟩
    · subst c
      go_wp2
      go_ret
      exact ⟨by rw [HF.out]; rfl, rfl⟩
    · have e1 : (48 : Int) ≤ (xn : Int) := by omega
      have e2 : ¬ (xn : Int) ≤ 57 := by omega
      have e3 : ¬ (97 : Int) ≤ (xn : Int) := by omega
      clear c c'
      go_wp2
      go_ret
      exact ⟨by rw [HF.out]; rfl, rfl⟩
    have e1 : (48 : Int) ≤ (xn : Int) := by omega
    have e2 : ¬ (xn : Int) ≤ 57 := by omega
    have e3 : (97 : Int) ≤ (xn : Int) := by omega
    have e4 : ¬ (xn : Int) ≤ 122 := by omega
    clear c
    go_wp2
    go_ret
    exact ⟨by rw [HF.out]; rfl, rfl⟩
  have hjn : j = n.length := by omega
  have hall : n.all okC = true := by
    have := HJ.out
    rw [hjn, List.take_length] at this
    exact this
  have hms := HMS.out
  rw [hall, Bool.and_true] at hms
  have HM2 := hid hms
  have hjl : ¬ (j : Int) < (n.length : Int) := by omega
  clear HMS HJ hall hms
  by_cases g1 : 1 ≤ n.length
  · have e1 : (0 : Int) < (n.length : Int) := by omega
    by_cases g2 : n.length ≤ 32
    · have e2 : (n.length : Int) < 33 := by omega
      have hr : mayS n = true := by rw [HM2.out]; simp [g1, g2]
      have HR := hid hr
      clear hr
      go_wp2
      go_ret
      exact ⟨by rw [HR.out]; rfl, rfl⟩
    have e2 : ¬ (n.length : Int) < 33 := by omega
    have hr : mayS n = false := by rw [HM2.out]; simp [g2]
    have HR := hid hr
    clear hr
    go_wp2
    go_ret
    exact ⟨by rw [HR.out]; rfl, rfl⟩
  have e1 : ¬ (0 : Int) < (n.length : Int) := by omega
  have hr : mayS n = false := by rw [HM2.out]; simp [g1]
  have HR := hid hr
  clear hr
  go_wp2
  go_ret
  exact ⟨by rw [HR.out]; rfl, rfl⟩
end Go.Proofs.YtjapeaoebjmpnaaGreatDoor
