/- Acts in memory; the walk of snap. Printed by gen_vl7.py. -/
import Derived.Test.YtjapeaoebjmpnaaGreatDoorB22
import Derived.BigQuiet
namespace Go.Proofs.YtjapeaoebjmpnaaGreatDoor
open Go.RowKit Go.Maps
set_option linter.unusedVariables false
set_option linter.unusedSimpArgs false
attribute [local go_sem] bmax2 bmin2 bmax_two bmin_two

/-- An act of the laws. -/
structure Kt where
  op : Int
  s : Sn
  size : Int
  n : Int
  keep : Int
  tear : Int
def szN (z : Int) : Nat := ((IntKind.u64.wrap z).tmod 3000).toNat
theorem szN_eq (z : Int) : (IntKind.u64.wrap z).tmod 3000 = (szN z : Int) ∧ szN z < 3000 := by
  have h0 : 0 ≤ IntKind.u64.wrap z := by rw [IntKind.wrap_u64]; omega
  have h3 := Int.tmod_lt_of_pos (IntKind.u64.wrap z) (show (0 : Int) < 3000 by decide)
  have h4 := Int.tmod_nonneg 3000 h0
  unfold szN
  omega
def snapS (k : Kt) : Sn := ⟨k.s.i, k.s.t, k.s.vs, k.s.d ++ List.replicate (szN k.size) 0⟩
def KtV (F : Nat → Prop) (w : World) (v : Value) (k : Kt) : Prop :=
  ∃ va vn vc da dn dc, v = .agg #[.int .i64 k.op, .int .i64 k.s.i, .int .i64 k.s.t, .slice va vn vc, .slice da dn dc, .int .i64 k.size, .int .i64 k.n, .int .i64 k.keep, .int .i64 k.tear] ∧
    In64 k.op ∧ In64 k.s.i ∧ In64 k.s.t ∧ In64 k.size ∧ In64 k.n ∧ In64 k.keep ∧ In64 k.tear ∧ IsF F w va vn vc k.s.vs ∧ ByF F w da dn dc k.s.d
theorem KtV.keep {F G : Nat → Prop} {w w' : World} {v : Value} {k : Kt} (h : KtV F w v k) (hf : ∀ q, F q → q < w.heap.size → G q ∧ w'.heap[q]? = w.heap[q]?) : KtV G w' v k := by
  obtain ⟨va, vn, vc, da, dn, dc, h1, h2, h3, h4, h5, h6, h7, h8, h9, h10⟩ := h
  exact ⟨va, vn, vc, da, dn, dc, h1, h2, h3, h4, h5, h6, h7, h8, h9.keep hf, h10.keep hf⟩
theorem KtV.below {F : Nat → Prop} {w w' : World} {v : Value} {k : Kt} (h : KtV F w v k) (hx : Ext w w') : KtV F w' v k := h.keep fun q hq hl => ⟨hq, hx.block q hl⟩
theorem cells9 {W : World} {b : Nat} {x0 x1 x2 x3 x4 x5 x6 x7 x8 : Value} {t : TypeId} (h : W.heap[b]? = some (.cells #[x0, x1, x2, x3, x4, x5, x6, x7, x8] t (0, 0))) : W.cell? ⟨b, 5, none⟩ = some x5 := by simp [World.cell?, h]
/-- What Clone of bytes hands on: a row of the call's own, or none. -/
theorem cloneR_any {F : Nat → Prop} {a : Option Addr} {n c : Nat} {d : By} {w : World} (hd : ByF F w a n c d) :
    Calls Tryz.prog 40 #[.slice a n c] w (fun e w' => ∃ v, e = .returned v ∧ w'.ownsRow w.heap.size 5 1 v n (u8s d) ∧ Ext w w') := by
  cases a with
  | none =>
    have hc : c = 0 := hd.2.2.2.1 rfl
    have hn : n = 0 := by have := hd.2.1; omega
    subst hc; subst hn
    have : d = [] := List.eq_nil_of_length_eq_zero hd.1.symm
    subst this
    refine (cloneB_none w).mono ?_
    rintro e w' ⟨rfl, rfl⟩
    exact ⟨_, rfl, World.ownsRow_nil _ _ _ _, Below.refl _ _⟩
  | some p =>
    refine (cloneB_some hd).mono ?_
    rintro e w' ⟨v, rfl, ho, hx⟩
    obtain ⟨-, g, c', rfl, hr⟩ := ho
    exact ⟨_, rfl, hr, hx⟩
theorem own_slice3 {w : World} {B : Nat} {e : TypeId} {sz : Nat} {v : Value} {n : Nat} {xs : List Value} (h : w.ownsRow B e sz v n xs) : ∃ a c, v = .slice a n c := by
  rcases h.2 with ⟨rfl, rfl⟩ | ⟨g, c, cur, rfl, -⟩
  · exact ⟨_, _, rfl⟩
  exact ⟨_, _, rfl⟩
theorem own_byF {w : World} {B : Nat} {a : Option Addr} {n c : Nat} {d : By} (h : w.ownsRow B 5 1 (.slice a n c) d.length (u8s d)) (hd : d.length ≤ 140737488351232) : ByF (fun q => B ≤ q ∧ q < w.heap.size) w a n c d := by
  rcases h.2 with ⟨e, e2⟩ | ⟨g, cap, cur, e, hr⟩
  · injection e with e1 e2' e3
    subst e1; subst e2'; subst e3
    have : d = [] := List.eq_nil_of_length_eq_zero e2
    subst this
    exact ByF.nil_ _ _
  injection e with e1 e2' e3
  subst e1; subst e2'; subst e3
  exact OwnB.by_ ⟨rfl, g, _, rfl, h⟩ hd

set_option maxRecDepth 100000 in
set_option maxHeartbeats 4000000 in
theorem snap_any {F : Nat → Prop} {w : World} {v : Value} {k : Kt} (h : KtV F w v k) :
    Calls Tryz.prog 16 #[v] w (fun e w' => ∃ x0 x1 x2 x3, e = .returned (.agg #[x0, x1, x2, x3]) ∧ (k.s.d.length ≤ 1000000000000 → SnV (fun q => w.heap.size ≤ q ∧ q < w'.heap.size) w' (.agg #[x0, x1, x2, x3]) (snapS k)) ∧ Ext w w') := by
  obtain ⟨va, vn, vc, da, dn, dc, rfl, -, hi, ht, -, -, -, -, hv, hd⟩ := h
  obtain ⟨hz, hz3⟩ := szN_eq k.size
  obtain ⟨kop, ⟨ki, kt, kvs, kd⟩, ksz, kn, kk, ktr⟩ := k
  dsimp only at *
  unfold snapS
  dsimp only
  obtain ⟨N, hN⟩ : ∃ N, N = szN ksz := ⟨_, rfl⟩
  rw [← hN] at hz hz3 ⊢
  have HIT := hid (show In64 ki ∧ In64 kt from ⟨hi, ht⟩)
  have hdn : dn = kd.length := hd.1
  have hd47 : dn ≤ 140737488351232 := hd.2.2.1.2
  have HDN := hid hdn
  have HV := hid (fun W (hW : Ext w W) => cloneI_any (hv.below hW))
  have HD := hid (fun W (hW : Ext w W) => cloneR_any (hd.below hW))
  clear hv hd hi ht hdn hN
  go_enter Tryz.func16, Tryz.ntmps16
  go_wp2_with fail

  have e1 := heap_alloc_new w (.cells #[.int .i64 kop, .int .i64 ki, .int .i64 kt, .slice va vn vc, .slice da dn dc, .int .i64 ksz, .int .i64 kn, .int .i64 kk, .int .i64 ktr] 38)
  have z1 : (w.alloc (.cells #[.int .i64 kop, .int .i64 ki, .int .i64 kt, .slice va vn vc, .slice da dn dc, .int .i64 ksz, .int .i64 kn, .int .i64 kk, .int .i64 ktr] 38)).heap.size = w.heap.size + 1 := World.size_alloc ..
  have x1 := ext_alloc w (.cells #[.int .i64 kop, .int .i64 ki, .int .i64 kt, .slice va vn vc, .slice da dn dc, .int .i64 ksz, .int .i64 kn, .int .i64 kk, .int .i64 ktr] 38)
  generalize w.alloc (.cells #[.int .i64 kop, .int .i64 ki, .int .i64 kt, .slice va vn vc, .slice da dn dc, .int .i64 ksz, .int .i64 kn, .int .i64 kk, .int .i64 ktr] 38) = W1 at *
  have e2 := heap_alloc_new W1 (.cells #[.int .i64 0, .int .i64 0, .slice none 0 0, .slice none 0 0] 25)
  have z2 : (W1.alloc (.cells #[.int .i64 0, .int .i64 0, .slice none 0 0, .slice none 0 0] 25)).heap.size = W1.heap.size + 1 := World.size_alloc ..
  have x2 := ext_alloc W1 (.cells #[.int .i64 0, .int .i64 0, .slice none 0 0, .slice none 0 0] 25)
  generalize W1.alloc (.cells #[.int .i64 0, .int .i64 0, .slice none 0 0, .slice none 0 0] 25) = W2 at *
  have e3 := heap_alloc_new W2 (.cells #[.int .i64 ki, .int .i64 kt, .slice va vn vc, .slice da dn dc] 25)
  have z3 : (W2.alloc (.cells #[.int .i64 ki, .int .i64 kt, .slice va vn vc, .slice da dn dc] 25)).heap.size = W2.heap.size + 1 := World.size_alloc ..
  have x3 := ext_alloc W2 (.cells #[.int .i64 ki, .int .i64 kt, .slice va vn vc, .slice da dn dc] 25)
  generalize W2.alloc (.cells #[.int .i64 ki, .int .i64 kt, .slice va vn vc, .slice da dn dc] 25) = W3 at *
  have x13 := x2.trans' x3
  have e1 := (x13.block w.heap.size (by omega)).trans e1
  have e2 := (x3.block W1.heap.size (by omega)).trans e2
  rw [z1] at e2
  rw [show W2.heap.size = w.heap.size + 1 + 1 by omega] at e3
  have HX3 := hid (x1.trans' x13)
  have HZ3 := hid (show W3.heap.size = w.heap.size + 3 by omega)
  clear x1 x2 x3 x13 z1 z2 z3
  refine Calls.mono (HV.out W3 HX3.out) ?_
  rintro e w4 ⟨a1, n1, c1, rfl, hb1, hx4⟩
  have e1 := (hx4.block w.heap.size (by have := HZ3.out; omega)).trans e1
  have e2 := (hx4.block (w.heap.size + 1) (by have := HZ3.out; omega)).trans e2
  have e3 := (hx4.block (w.heap.size + 1 + 1) (by have := HZ3.out; omega)).trans e3
  have HB1 := hid hb1
  have HX4 := hid (HX3.out.trans' hx4)
  have HZ4 := hid (show w.heap.size + 3 ≤ w4.heap.size by have := HZ3.out; have := hx4.size; omega)
  clear hb1 hx4
  obtain ⟨⟨q0, q1, q2, q3⟩, ⟨f0, f1, f2, f3⟩, hl3⟩ := cells4 e3
  go_wp2
  have hS := (SetG.start e3).step 2 (.slice a1 n1 c1)
  generalize w4.setCell ⟨w.heap.size + 1 + 1, 2, none⟩ (.slice a1 n1 c1) = w5 at *
  have E1 := hid ((hS.frm.block w.heap.size (by have := HZ4.out; omega) (by show ¬ w.heap.size = w.heap.size + 1 + 1; omega)).trans e1)
  have E2 := hid ((hS.frm.block (w.heap.size + 1) (by have := HZ4.out; omega) (by show ¬ w.heap.size + 1 = w.heap.size + 1 + 1; omega)).trans e2)
  have E3 := hid hS.obj
  have HX5 := hid (ext_frm HX4.out hS.frm (fun q hq => by rw [hq]; omega))
  have HZ5 := hid hS.size
  have HB5 := hid (HB1.out.keep (w' := w5) (G := fun q => w.heap.size + 3 ≤ q ∧ q < w5.heap.size) fun q hq hl => ⟨⟨by have := hq.1; have := HZ3.out; omega, by rw [hS.size]; exact hl⟩, hS.frm.block q hl (by show ¬ q = _; have := hq.1; have := HZ3.out; omega)⟩)
  clear e1 e2 e3 q0 q1 q2 q3 f0 f1 f2 f3 hl3 hS HB1
  have y0 : w5.drew.cell? ⟨w.heap.size, 5, none⟩ = some (.int .i64 ksz) := cells9 E1.out
  refine wp_region_held_drew (S := fun W => W.cell? ⟨w.heap.size, 5, none⟩ = some (.int .i64 ksz)) (by kernel_rfl) y0 (fun hH => ?_)
  refine hr_ 0 (.pointer (some ⟨w.heap.size + 1 + 1, 3, none⟩)) rfl y0 (fun W hW => ?_) ?_
  · (clear hW; go_simp)
  try simp only [Act.put, sA_, s0_, sS_]
  refine hr_ 3 (.pointer (some ⟨w.heap.size, 5, none⟩)) rfl y0 (fun W hW => ?_) ?_
  · (clear hW; go_simp)
  try simp only [Act.put, sA_, s0_, sS_]
  refine hr_ 4 (.int .i64 ksz) rfl y0 (fun W hW => ?_) ?_
  · go_simp
  try simp only [Act.put, sA_, s0_, sS_]
  refine hr_ 5 (.int .u64 (IntKind.u64.wrap ksz)) rfl y0 (fun W hW => ?_) ?_
  · (clear hW; go_simp)
  try simp only [Act.put, sA_, s0_, sS_]
  refine hr_ 6 (.int .u64 (N : Int)) rfl y0 (fun W hW => ?_) ?_
  · (clear hW; go_simp)
  try simp only [Act.put, sA_, s0_, sS_]
  have hwN : IntKind.i64.wrap (N : Int) = N := IntWalk.i64_in _ ⟨by omega, by omega⟩
  refine hr_ 7 (.int .i64 (N : Int)) rfl y0 (fun W hW => ?_) ?_
  · (clear hW; go_simp)
  try simp only [Act.put, sA_, s0_, sS_]
  clear hwN
  have c13 : w5.drew.cell? ⟨w.heap.size + 1 + 1, 3, none⟩ = some (.slice da dn dc) := (cells4 E3.out).1.2.2.2
  refine hc_ 1 rfl (fun K hK => ?_)
  go_simp
  refine hK.out _ _ y0 (fun hH1 => ?_)
  clear hK K
  try simp only [Act.put, sA_, s0_, sS_]
  clear hH c13
  refine hc_ 2 rfl (fun K hK => ?_)
  go_simp
  go_at_call 40
  refine Calls.mono (HD.out _ (HX5.out.trans' (ext_drew w5))) ?_
  rintro e w6 ⟨v6, rfl, hown, hx6⟩
  have hx56 := (ext_drew w5).trans' hx6
  have y1 : w6.cell? ⟨w.heap.size, 5, none⟩ = some (.int .i64 ksz) := (hx56.cell (p := ⟨w.heap.size, 5, none⟩) (World.block_lt_of_cell? _ _ y0)).trans y0
  have HX56 := hid hx56
  obtain ⟨a6, c6, hv6⟩ := own_slice3 hown
  subst hv6
  have HOWN := hid hown
  clear hx6 hx56 hown
  go_wp2_with fail
  refine hK.out _ _ y1 (fun hH2 => ?_)
  clear hK K
  try simp only [Act.put, sA_, s0_, sS_]
  clear hH1 y0
  refine hc_ 8 rfl (fun K hK => ?_)
  obtain ⟨v7, w7, hrun, hown7, hg7⟩ := app_zeros HOWN.out N (by omega) hd47 (by have := HX56.out.size; simp; omega) 23
  rw [if_pos (by rfl)]
  refine Lib.wp_append_run w6 (.tmp 12) (.tmp 17) 23 3 rfl (.slice a6 dn c6) (.int .i64 (N : Int)) rfl rfl v7 w7 hrun ?_
  have hbelow : ∀ q, q < w5.heap.size → w7.heap[q]? = w6.heap[q]? := fun q hq => hg7.block q (by have := HX56.out.size; omega) (fun e => by
    rcases HOWN.out.2 with ⟨e1, -⟩ | ⟨g, cp, cur, e1, e2, -⟩
    · rw [e1] at e; cases e
    rw [e1] at e
    injection e with e
    have e : g = q := e.symm
    simp at e2
    omega)
  have hx67 : Ext w w7 := by
    refine ⟨(show _ = _ from hg7.os).trans (HX56.out.os.trans HX5.out.os), hg7.tape.trans (HX56.out.tape.trans HX5.out.tape), hg7.output.trans (HX56.out.output.trans HX5.out.output), ?_, fun q hq => ?_⟩
    · have := hg7.size; have := HX56.out.size; have := HX5.out.size; omega
    exact (hbelow q (by have := HX5.out.size; omega)).trans ((HX56.out.block q (by have := HX5.out.size; omega)).trans (HX5.out.block q hq))
  have F1 : w7.heap[w.heap.size]? = _ := (hbelow _ (by have := HZ5.out; have := HZ4.out; omega)).trans ((HX56.out.block _ (by have := HZ5.out; have := HZ4.out; omega)).trans E1.out)
  have F2 : w7.heap[w.heap.size + 1]? = _ := (hbelow _ (by have := HZ5.out; have := HZ4.out; omega)).trans ((HX56.out.block _ (by have := HZ5.out; have := HZ4.out; omega)).trans E2.out)
  have F3 : w7.heap[w.heap.size + 1 + 1]? = _ := (hbelow _ (by have := HZ5.out; have := HZ4.out; omega)).trans ((HX56.out.block _ (by have := HZ5.out; have := HZ4.out; omega)).trans E3.out)
  have y2 : w7.cell? ⟨w.heap.size, 5, none⟩ = some (.int .i64 ksz) := cells9 F1
  have HF2 := hid F2
  have HF3 := hid F3
  have HX7 := hid hx67
  have HG7 := hid hg7
  have HOWN7 := hid hown7
  have HBL := hid hbelow
  obtain ⟨a7, c7, hv7⟩ := own_slice3 hown7
  subst hv7
  clear hrun hown7 hg7 hbelow hx67 F1 F2 F3
  refine hK.out _ _ y2 (fun hH3 => ?_)
  clear hK K
  try simp only [Act.put, sA_, s0_, sS_]
  clear hH2 y1
  refine held_run (i := 9) (v := .pointer (some ⟨w.heap.size + 1 + 1, 3, none⟩)) rfl (by kernel_rfl) (by kernel_rfl) (by kernel_rfl) (fun _ _ _ h => h) (by rfl) y2 (fun W hW => ?_) ?_
  · (clear hW; go_simp)
  try simp only [Act.put, sA_, s0_, sS_]
  obtain ⟨⟨q0, q1, q2, q3⟩, ⟨f0, f1, f2, f3⟩, hl3⟩ := cells4 HF3.out
  refine hc_ 10 rfl (fun K hK => ?_)
  go_simp
  have hS := (SetG.start HF3.out).step 3 (.slice a7 (dn + N) c7)
  generalize w7.setCell ⟨w.heap.size + 1 + 1, 3, none⟩ (.slice a7 (dn + N) c7) = w8 at *
  have y3 : w8.cell? ⟨w.heap.size, 5, none⟩ = some (.int .i64 ksz) := (hS.frm.cell (p := ⟨w.heap.size, 5, none⟩) (World.block_lt_of_cell? _ _ y2) (by show ¬ w.heap.size = w.heap.size + 1 + 1; omega)).trans y2
  have HS8 := hid hS
  clear hS q0 q1 q2 q3 f0 f1 f2 f3 hl3
  refine hK.out _ _ y3 (fun hH4 => ?_)
  clear hK K
  try simp only [Act.put, sA_, s0_, sS_]
  refine wpAnyH_done (by kernel_rfl) ?_ _
  have e2 := (HS8.out.frm.block (w.heap.size + 1) (Array.getElem?_eq_some_iff.1 HF2.out).1 (by show ¬ w.heap.size + 1 = w.heap.size + 1 + 1; omega)).trans HF2.out
  have e3 := HS8.out.obj
  obtain ⟨⟨q0, q1, q2, q3⟩, -, -⟩ := cells4 e3
  obtain ⟨⟨r0, r1, r2, r3⟩, ⟨f0, f1, f2, f3⟩, hl2⟩ := cells4 e2
  have HE2 := hid e2
  clear e2 e3 y2 y3 hH3 hH4
  go_wp2
  obtain ⟨j1, j2, j3, j4⟩ := four_set HE2.out (.int .i64 ki) (.int .i64 kt) (.slice a1 n1 c1) (.slice a7 (dn + N) c7)
  have hx8 : Ext w w8 := ext_frm HX7.out HS8.out.frm (fun q hq => by rw [hq]; omega)
  refine bodyPost_ret_by (results_cell_row rfl _ _ (w.heap.size + 1) _ _ _ (Tryz.prog.underlying 25).get! rfl j1 (by kernel_rfl) (by kernel_rfl) (by kernel_rfl)) rfl ⟨_, _, _, _, rfl, fun hle => ?_, hx8.trans (j4 w.heap.size (by omega))⟩
  have hlast : ∀ q, q < w7.heap.size → q ≠ w.heap.size + 1 → q ≠ w.heap.size + 1 + 1 → ((((w8.setCell ⟨w.heap.size + 1, 0, none⟩ (.int .i64 ki)).setCell ⟨w.heap.size + 1, 1, none⟩ (.int .i64 kt)).setCell ⟨w.heap.size + 1, 2, none⟩ (.slice a1 n1 c1)).setCell ⟨w.heap.size + 1, 3, none⟩ (.slice a7 (dn + N) c7)).heap[q]? = w7.heap[q]? := fun q h1 h2 h3 =>
    (j2 q h2).trans (HS8.out.frm.block q h1 h3)
  have hz8 := HS8.out.size
  refine ⟨a1, n1, c1, a7, dn + N, c7, rfl, HIT.out.1, HIT.out.2, ?_, ?_⟩
  · refine HB5.out.keep fun q hq hl => ⟨⟨by omega, ?_⟩, ?_⟩
    · rw [j3, hz8]; have := HX56.out.size; have := HG7.out.size; omega
    rw [hlast q (by have := HX56.out.size; have := HG7.out.size; omega) (by omega) (by omega)]
    exact (HBL.out q hq.2).trans (HX56.out.block q hq.2)
  have ho := HOWN7.out
  have e : u8s kd ++ List.replicate N (Value.int .u8 0) = u8s (kd ++ List.replicate N 0) := by unfold u8s; simp
  have el : dn + N = (kd ++ List.replicate N 0).length := by rw [List.length_append, List.length_replicate, HDN.out]
  rw [e, el] at ho
  have hb := own_byF ho (by rw [← el, HDN.out]; omega)
  rw [← el] at hb
  refine hb.keep fun q hq hl => ⟨⟨?_, ?_⟩, hlast q hl ?_ ?_⟩
  · have h1 := hq.1; have := HZ5.out; have := HZ4.out; simp at h1; omega
  · rw [j3, hz8]; exact hl
  · have h1 := hq.1; have := HZ5.out; have := HZ4.out; simp at h1; omega
  have h1 := hq.1; have := HZ5.out; have := HZ4.out; simp at h1; omega
end Go.Proofs.YtjapeaoebjmpnaaGreatDoor

/- Lists of acts in memory; the walk of short. -/
namespace Go.Proofs.YtjapeaoebjmpnaaGreatDoor
open Go.RowKit Go.Maps
set_option linter.unusedVariables false
set_option linter.unusedSimpArgs false
attribute [local go_sem] bmax2 bmin2 bmax_two bmin_two

/-- An act's nine cells. -/
def KtAt (F : Nat → Prop) (w : World) (b o : Nat) (k : Kt) : Prop :=
  ∃ va vn vc da dn dc, w.cell? ⟨b, o, none⟩ = some (.int .i64 k.op) ∧ w.cell? ⟨b, o + 1, none⟩ = some (.int .i64 k.s.i) ∧ w.cell? ⟨b, o + 2, none⟩ = some (.int .i64 k.s.t) ∧ w.cell? ⟨b, o + 3, none⟩ = some (.slice va vn vc) ∧
    w.cell? ⟨b, o + 4, none⟩ = some (.slice da dn dc) ∧ w.cell? ⟨b, o + 5, none⟩ = some (.int .i64 k.size) ∧ w.cell? ⟨b, o + 6, none⟩ = some (.int .i64 k.n) ∧ w.cell? ⟨b, o + 7, none⟩ = some (.int .i64 k.keep) ∧ w.cell? ⟨b, o + 8, none⟩ = some (.int .i64 k.tear) ∧
    (In64 k.op ∧ In64 k.s.i ∧ In64 k.s.t ∧ In64 k.size ∧ In64 k.n ∧ In64 k.keep ∧ In64 k.tear) ∧ IsF F w va vn vc k.s.vs ∧ ByF F w da dn dc k.s.d
theorem KtAt.keep {F G : Nat → Prop} {w w' : World} {b o : Nat} {k : Kt} (h : KtAt F w b o k) (hb : w'.heap[b]? = w.heap[b]?) (hf : ∀ q, F q → q < w.heap.size → G q ∧ w'.heap[q]? = w.heap[q]?) : KtAt G w' b o k := by
  obtain ⟨va, vn, vc, da, dn, dc, h0, h1, h2, h3, h4, h5, h6, h7, h8, h9, h10, h11⟩ := h
  have hc : ∀ j, w'.cell? ⟨b, j, none⟩ = w.cell? ⟨b, j, none⟩ := fun j => World.cell?_of_block (w := w) (a := ⟨b, j, none⟩) hb
  exact ⟨va, vn, vc, da, dn, dc, (hc _).trans h0, (hc _).trans h1, (hc _).trans h2, (hc _).trans h3, (hc _).trans h4, (hc _).trans h5, (hc _).trans h6, (hc _).trans h7, (hc _).trans h8, h9, h10.keep hf, h11.keep hf⟩
def KtsF (F : Nat → Prop) (w : World) (a : Option Addr) (n c : Nat) (l : List Kt) : Prop :=
  n = l.length ∧ n ≤ c ∧ c ≤ maxLen ∧ (a = none → c = 0) ∧ ∀ p, a = some p → (0 < c → p.spot = none) ∧ ∀ k, (h : k < l.length) → F p.block ∧ KtAt F w p.block (p.off + k * 9) l[k]
theorem KtsF.keep {F G : Nat → Prop} {w w' : World} {a : Option Addr} {n c : Nat} {l : List Kt} (h : KtsF F w a n c l) (hf : ∀ k, F k → k < w.heap.size → G k ∧ w'.heap[k]? = w.heap[k]?) : KtsF G w' a n c l := by
  obtain ⟨h1, h2, h3, h4, h5⟩ := h
  refine ⟨h1, h2, h3, h4, fun p hp => ⟨(h5 p hp).1, fun k hk => ?_⟩⟩
  obtain ⟨h6, h7⟩ := (h5 p hp).2 k hk
  have hl : p.block < w.heap.size := by
    obtain ⟨_, _, _, _, _, _, h8, -⟩ := h7
    exact World.block_lt_of_cell? w ⟨p.block, p.off + k * 9, none⟩ h8
  exact ⟨(hf _ h6 hl).1, h7.keep (hf _ h6 hl).2 hf⟩
theorem KtsF.below {F : Nat → Prop} {w w' : World} {a : Option Addr} {n c : Nat} {l : List Kt} (h : KtsF F w a n c l) (hx : Ext w w') : KtsF F w' a n c l := h.keep fun k hk hl => ⟨hk, hx.block k hl⟩
theorem KtsF.nil_ (F : Nat → Prop) (w : World) : KtsF F w none 0 0 [] := ⟨rfl, by simp, by simp, fun _ => rfl, fun p hp => by cases hp⟩
theorem KtsF.at_ {F : Nat → Prop} {w : World} {a : Option Addr} {n c : Nat} {l : List Kt} (h : KtsF F w a n c l) {k : Nat} (hk : k < n) : ∃ b o, a = some ⟨b, o, none⟩ ∧ F b ∧ b < w.heap.size ∧ ∃ hl : k < l.length, KtAt F w b (o + k * 9) l[k] := by
  obtain ⟨rfl, h2, h3, h4, h5⟩ := h
  cases a with
  | none => have := h4 rfl; omega
  | some p =>
    obtain ⟨b, o, s⟩ := p
    have hs : s = none := (h5 _ rfl).1 (by omega)
    subst hs
    obtain ⟨h6, h7⟩ := (h5 _ rfl).2 k hk
    have hl : b < w.heap.size := by
      obtain ⟨_, _, _, _, _, _, h8, -⟩ := h7
      exact World.block_lt_of_cell? w ⟨b, o + k * 9, none⟩ h8
    exact ⟨b, o, rfl, h6, hl, hk, h7⟩
/-- The lists of which something is asked. -/
def Small (l : List Kt) : Prop := l.length ≤ 40 ∧ ∀ x ∈ l, x.s.d.length ≤ 65536
def ShortPost (l : List Kt) (w : World) (e : Ending) (w' : World) : Prop := ∃ b, e = .returned (.bool b) ∧ (b = true → Small l) ∧ Ext w w'

set_option maxRecDepth 100000 in
set_option maxHeartbeats 4000000 in
theorem short_any {F : Nat → Prop} {w : World} {a : Option Addr} {n c : Nat} {l : List Kt} (h : KtsF F w a n c l) :
    Calls Tryz.prog 14 #[.slice a n c] w (ShortPost l w) := by
  have hn := h.1
  have hn63 : n ≤ 9223372036854775807 := by have h1 := h.2.1; have h2 := h.2.2.1; unfold maxLen at h2; omega
  have HN := hid hn
  have H := hid h
  clear h hn
  go_enter Tryz.func14, Tryz.ntmps14
  go_wp2
  go_loopw [3, 4] (fun x z wr => ∃ (k m : Nat), k ≤ n ∧ k ≤ 41 ∧ z = .int .i64 (k : Int) ∧ x = .int .i64 (m : Int) ∧ m ≤ 300000 ∧ Hid (m ≤ 65536 → ∀ y ∈ l.take k, y.s.d.length ≤ 65536) ∧ Hid (Ext w wr)) (fun _ z _ => 41 - (intOf z).toNat)
  case atStart => exact ⟨0, 0, Nat.zero_le _, by omega, rfl, rfl, by omega, hid (fun _ y hy => by simp at hy), Below.refl _ _⟩
  obtain ⟨k, m, hk, hk41, rfl, rfl, hm, HM, HX⟩ := hrel
  by_cases hlt : k < n ∧ k ≤ 40 ∧ m ≤ 65536
  · obtain ⟨h1, h2, h3⟩ := hlt
    obtain ⟨b, o, rfl, -, hbl, hl, hat⟩ := (H.out.below HX.out).at_ h1
    have het : l.take (k + 1) = l.take k ++ [l[k]] := List.take_succ_eq_append_getElem hl
    obtain ⟨y, hy⟩ : ∃ y, y = l[k] := ⟨_, rfl⟩
    rw [← hy] at hat het
    obtain ⟨va, vn, vc, da, dn, dc, -, -, -, q3, q4, -, -, -, -, -, -, hby⟩ := hat
    have hdn : dn = y.s.d.length := hby.1
    have hki : (0 : Int) ≤ (k : Int) := by omega
    have hki2 : (k : Int) < (n : Int) := by omega
    obtain ⟨m1, hm1⟩ : ∃ m1 : Nat, min (dn : Int) 65537 = (m1 : Int) := ⟨(min (dn : Int) 65537).toNat, by omega⟩
    obtain ⟨m2, hm2⟩ : ∃ m2 : Nat, min (vn : Int) 65536 = (m2 : Int) := ⟨(min (vn : Int) 65536).toNat, by omega⟩
    have hb1 : m1 ≤ 65537 := by omega
    have hb2 : m2 ≤ 65536 := by omega
    have hdm : m1 ≤ 65536 → dn ≤ 65536 := by omega
    obtain ⟨m3, hm3⟩ : ∃ m3 : Nat, (m1 : Int) + (m2 : Int) = (m3 : Int) := ⟨m1 + m2, by omega⟩
    have hm3n : m3 = m1 + m2 := by omega
    obtain ⟨m4, hm4⟩ : ∃ m4 : Nat, (m : Int) + (m3 : Int) = (m4 : Int) := ⟨m + m3, by omega⟩
    have hm4n : m4 = m + m3 := by omega
    have hw3 : IntKind.i64.wrap (m3 : Int) = (m3 : Int) := IntWalk.i64_in _ ⟨by omega, by omega⟩
    have hw4 : IntKind.i64.wrap (m4 : Int) = (m4 : Int) := IntWalk.i64_in _ ⟨by omega, by omega⟩
    have HM2 := hid (show m4 ≤ 65536 → ∀ z ∈ l.take (k + 1), z.s.d.length ≤ 65536 from fun h z hz => by
      rw [het] at hz
      rcases List.mem_append.1 hz with hz | hz
      · exact HM.out h3 z hz
      rw [List.mem_singleton] at hz
      rw [hz, ← hdn]
      exact hdm (by omega))
    have hm4b : m4 ≤ 300000 := by omega
    clear hby hdn het hy hdm hb1 hb2 hm3n hm4n
    go_wp2
    refine wp_region_quiet_lit (by kernel_rfl) (by kernel_rfl) ?_
    repeat (any_goals (first | go_big_quiet_step (fail) | quiet_step (fail)))
    refine wpQuiet_nil ?_
    intro wq hwq
    obtain ⟨nq, hwq⟩ := hwq
    subst hwq
    go_wp2
    go_roundw
    case rel => exact ⟨k + 1, m4, by omega, by omega, by go_num, by go_num, hm4b, HM2.out, HX.out.trans' (ext_drewN wr nq)⟩
    case measure => simp [intOf]; omega
  have hfin : ∀ b : Bool, b = (decide (n ≤ 40) && decide (m ≤ 65536)) → (b = true → Small l) := fun b hb hbt => by
    rw [hb, Bool.and_eq_true, decide_eq_true_eq, decide_eq_true_eq] at hbt
    have hkn : k = n := by
      rcases Nat.lt_or_ge k n with h | h
      · exact absurd ⟨h, by omega, hbt.2⟩ hlt
      omega
    refine ⟨by have := HN.out; omega, fun x hx => HM.out hbt.2 x ?_⟩
    rw [hkn, List.take_of_length_le (by have := HN.out; omega)]
    exact hx
  have HFIN := hid hfin
  clear hfin
  have hcond : ¬ k < n ∨ (k < n ∧ ¬ k ≤ 40) ∨ (k < n ∧ k ≤ 40 ∧ ¬ m ≤ 65536) := by
    by_cases h1 : k < n
    · by_cases h2 : k ≤ 40
      · exact .inr (.inr ⟨h1, h2, fun h => hlt ⟨h1, h2, h⟩⟩)
      exact .inr (.inl ⟨h1, h2⟩)
    exact .inl h1
  clear hlt
  by_cases g1 : n ≤ 40
  all_goals by_cases g2 : m ≤ 65536
  all_goals rcases hcond with c1 | ⟨c1, c2⟩ | ⟨c1, c2, c3⟩
  all_goals first
    | (exfalso; omega)
    | (go_wp2; go_ret; exact ⟨_, rfl, HFIN.out _ (by first | (simp [g1, g2]; done) | (simp [g1]; omega) | (simp; omega)), HX.out⟩)
end Go.Proofs.YtjapeaoebjmpnaaGreatDoor
