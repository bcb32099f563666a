/- The walk of read. -/
import Derived.Test.YtjapeaoebjmpnaaGreatDoorB10
import Derived.Deep.RegionWith
import Derived.Deep.AppendLies
import Derived.Deep.RegionLaw
import Derived.Laws.ResultCell
namespace Go.Proofs.YtjapeaoebjmpnaaGreatDoor
open Go.RowKit Go.Maps
set_option linter.unusedVariables false
set_option linter.unusedSimpArgs false
attribute [local go_sem] bmax2 bmin2 bmax_two bmin_two

/-- The state that is none. -/
def snZero : Value := .agg #[.int .i64 0, .int .i64 0, .slice none 0 0, .slice none 0 0]
/-- What read leaves. -/
def ReadV (b : By) (w : World) (e : Ending) (w' : World) : Prop :=
  Ext w w' ∧ ((∃ s v, checkS s = 0 ∧ fileB s = b ∧ SnV (fun q => w.heap.size ≤ q ∧ q < w'.heap.size) w' v s ∧ e = .returned (.tuple #[v, .bool true])) ∨
    ((∀ s, checkS s = 0 → fileB s ≠ b) ∧ e = .returned (.tuple #[snZero, .bool false])))
theorem results_cell_row_tmp {P : Program} {fn : Func} {p u : Tmp} {ty : TypeId} (h : fn.results = #[.cell p ty, .tmp u]) (tmps : Array Value) (w : World) (g : Nat) (t : TypeId) (cs : Array Value) (fr : Nat × Nat) (d : TypeDesc)
    (hp : tmps.getD p undef = .pointer (some ⟨g, 0, none⟩)) (hg : w.heap[g]? = some (.cells cs t fr))
    (hu : P.underlying ty = some d) (hd : (match d with | .struct _ | .array _ _ => true | _ => false) = true) (hi : (P.info? ty).map (·.size) = some cs.size) :
    (results fn tmps).run P w = .ok (.tuple #[.agg cs, tmps.getD u undef]) w := by
  rw [results_cell_tmp h, hp]
  simp [asAddr, run_loadVar_row w g t ty cs fr d hg hu hd hi]

theorem read_fail {w W : World} {b : By} {tmps : Array Value} {x0 x1 x2 x3 : Value} (hp : tmps.getD 2 undef = .pointer (some ⟨w.heap.size, 0, none⟩)) (hu : tmps.getD 3 undef = .bool false)
    (hq : W.heap[w.heap.size]? = some (.cells #[x0, x1, x2, x3] 25 (0, 0))) (hx : Ext w W) (hno : ∀ s, checkS s = 0 → fileB s ≠ b) :
    bodyPost Tryz.prog Tryz.f61 (ReadV b w) .ret { tmps := tmps, defers := [] } ((((W.setCell ⟨w.heap.size, 0, none⟩ (.int .i64 0)).setCell ⟨w.heap.size, 1, none⟩ (.int .i64 0)).setCell ⟨w.heap.size, 2, none⟩ (.slice none 0 0)).setCell ⟨w.heap.size, 3, none⟩ (.slice none 0 0)) := by
  obtain ⟨j1, j2, j3, j4⟩ := four_set hq (.int .i64 0) (.int .i64 0) (.slice none 0 0) (.slice none 0 0)
  refine bodyPost_ret_by (results_cell_row_tmp rfl _ _ w.heap.size _ _ _ (Tryz.prog.underlying 25).get! hp j1 (by kernel_rfl) (by kernel_rfl) (by kernel_rfl)) rfl ⟨hx.trans (j4 _ (Nat.le_refl _)), .inr ⟨hno, ?_⟩⟩
  rw [hu]; rfl

theorem read_ok {w W : World} {b : By} {s : Sn} {tmps : Array Value} {x0 x1 x2 x3 y0 y1 y2 y3 : Value} (hp : tmps.getD 2 undef = .pointer (some ⟨w.heap.size, 0, none⟩)) (hu : tmps.getD 3 undef = .bool true)
    (hq : W.heap[w.heap.size]? = some (.cells #[x0, x1, x2, x3] 25 (0, 0))) (hx : Ext w W) (hs : SnV (fun q => w.heap.size < q ∧ q < W.heap.size) W (.agg #[y0, y1, y2, y3]) s) (hck : checkS s = 0) (hf : fileB s = b) :
    bodyPost Tryz.prog Tryz.f61 (ReadV b w) .ret { tmps := tmps, defers := [] } ((((W.setCell ⟨w.heap.size, 0, none⟩ y0).setCell ⟨w.heap.size, 1, none⟩ y1).setCell ⟨w.heap.size, 2, none⟩ y2).setCell ⟨w.heap.size, 3, none⟩ y3) := by
  obtain ⟨j1, j2, j3, j4⟩ := four_set hq y0 y1 y2 y3
  refine bodyPost_ret_by (results_cell_row_tmp rfl _ _ w.heap.size _ _ _ (Tryz.prog.underlying 25).get! hp j1 (by kernel_rfl) (by kernel_rfl) (by kernel_rfl)) rfl ⟨hx.trans (j4 _ (Nat.le_refl _)), .inl ⟨s, _, hck, hf, ?_, by rw [hu]⟩⟩
  exact hs.keep fun q hq hl => ⟨⟨by omega, by rw [j3]; exact hl⟩, j2 q (by omega)⟩

/-- What is known behind a number's call, within the round. -/
theorem read_step {D0 : Nat → Prop} {w w1 w6 wr w8 : World} {b7 : Nat} {A0 A1 A3 : Value} {va : Option Addr} {vn vc : Nat} {vs : List Int} (hf : Frm D0 wr.drew w8) (hb : wr.heap[b7]? = some (.cells #[A0, A1, .slice va vn vc, A3] 25 (0, 0)))
    (ho : OwnI w.heap.size wr (.slice va vn vc) vs) (hq : ∀ q, (Value.slice va vn vc).ownBlock = some q → b7 < q) (hD : ∀ q, D0 q → q < b7) (h15 : w1.heap.size ≤ b7) (hx16 : Ext w1 w6) (x : Nat) (hw : w.heap.size ≤ w1.heap.size) :
    (w8.cell? ⟨b7, 2, none⟩ = some (.slice va vn vc)) ∧
    ((w8.alloc (.cells #[.int .i64 (x : Int)] 3)).ownsRow w.heap.size 3 1 (.slice va vn vc) vs.length (vs.map (Value.int .i64))) ∧
    (∀ (j : Nat) (u : Value), [Value.int .i64 (x : Int)][j]? = some u → (w8.alloc (.cells #[.int .i64 (x : Int)] 3)).cell? ((⟨w8.heap.size, 0, none⟩ : Addr).add j) = some u) ∧
    (∀ u ∈ [Value.int .i64 (x : Int)], u.oneCell' = true) ∧ (w.heap.size ≤ (w8.alloc (.cells #[.int .i64 (x : Int)] 3)).heap.size) ∧
    (∀ w9, (w8.alloc (.cells #[.int .i64 (x : Int)] 3)).grownBy w9 (Value.slice va vn vc).ownBlock → w9.cell? ⟨b7, 2, none⟩ = some (.slice va vn vc) ∧ w9.frozen? ⟨b7, 2, none⟩ = false ∧ b7 < w9.heap.size) ∧ b7 < w8.heap.size ∧ True ∧ True := by
  have hlb : b7 < wr.heap.size := (Array.getElem?_eq_some_iff.1 hb).1
  have hb8 : w8.heap[b7]? = some (.cells #[A0, A1, .slice va vn vc, A3] 25 (0, 0)) := (hf.block b7 hlb fun h => by have := hD b7 h; omega).trans hb
  have hsz : wr.heap.size ≤ w8.heap.size := hf.size
  have ho8 : w8.ownsRow w.heap.size 3 1 (.slice va vn vc) vs.length (vs.map (Value.int .i64)) := own_keep ho fun q h1 => (hf.block q (own_cells ho h1).1 fun h => by have := hD q h; have := hq q h1; omega)
  refine ⟨by simp [World.cell?, hb8], own_keep ho8 fun q h1 => Below.heap_alloc _ _ _ (own_cells ho8 h1).1, fun j u hu => ?_, fun u hu => by rw [List.mem_singleton] at hu; subst hu; rfl, by simp; omega, fun w9 hg => ?_, by omega, trivial, trivial⟩
  · cases j with
    | zero =>
      have hu := Option.some.inj hu; subst hu
      show (w8.alloc _).cell? ((⟨w8.heap.size, 0, none⟩ : Addr).add 0) = _
      unfold Addr.add World.cell?
      simp only [if_pos]
      rw [heap_alloc_new]; rfl
    | succ j => cases (show (none : Option Value) = some u from hu)
  have h9 : w9.heap[b7]? = some (.cells #[A0, A1, .slice va vn vc, A3] 25 (0, 0)) :=
    (hg.block b7 (by simp; omega) fun e => by have := hq b7 e.symm; omega).trans ((Below.heap_alloc _ _ _ (by omega)).trans hb8)
  exact ⟨by simp [World.cell?, h9], by simp [World.frozen?, h9], (Array.getElem?_eq_some_iff.1 h9).1⟩

theorem read_next {D0 : Nat → Prop} {w w1 wr w8 w9 : World} {b7 g g9 cap9 : Nat} {sc : Sc} {A0 A1 A3 : Value} {va : Option Addr} {vn vc : Nat} {vs : List Int} (hf : Frm D0 wr.drew w8) (hsc : ScAt D0 w8 g sc) (hb : wr.heap[b7]? = some (.cells #[A0, A1, .slice va vn vc, A3] 25 (0, 0)))
    (ho : OwnI w.heap.size wr (.slice va vn vc) vs) (hq : ∀ q, (Value.slice va vn vc).ownBlock = some q → b7 < q) (hD : ∀ q, D0 q → q < b7) (h15 : w1.heap.size ≤ b7) (hx : Ext w1 wr) (hw : w.heap.size ≤ w1.heap.size) (x : Nat)
    (ho9 : w9.ownsRow w.heap.size 3 1 (.slice (some ⟨g9, 0, none⟩) (vs.length + 1) cap9) (vs.length + 1) (vs.map (Value.int .i64) ++ [.int .i64 (x : Int)])) (hg : (w8.alloc (.cells #[.int .i64 (x : Int)] 3)).grownBy w9 (Value.slice va vn vc).ownBlock)
    (hat : (Value.slice va vn vc).ownBlock = some g9 ∨ g9 = (w8.alloc (.cells #[.int .i64 (x : Int)] 3)).heap.size) (hDw : ∀ q, D0 q → w1.heap.size ≤ q) :
    ScAt D0 (w9.setCell ⟨b7, 2, none⟩ (.slice (some ⟨g9, 0, none⟩) (vs.length + 1) cap9)) g sc ∧
    (w9.setCell ⟨b7, 2, none⟩ (.slice (some ⟨g9, 0, none⟩) (vs.length + 1) cap9)).heap[b7]? = some (.cells #[A0, A1, .slice (some ⟨g9, 0, none⟩) (vs.length + 1) cap9, A3] 25 (0, 0)) ∧
    OwnI w.heap.size (w9.setCell ⟨b7, 2, none⟩ (.slice (some ⟨g9, 0, none⟩) (vs.length + 1) cap9)) (.slice (some ⟨g9, 0, none⟩) (vs.length + 1) cap9) (vs ++ [(x : Int)]) ∧
    (∀ q, (Value.slice (some ⟨g9, 0, none⟩) (vs.length + 1) cap9).ownBlock = some q → b7 < q) ∧
    Ext w1 (w9.setCell ⟨b7, 2, none⟩ (.slice (some ⟨g9, 0, none⟩) (vs.length + 1) cap9)) ∧
    b7 < (w9.setCell ⟨b7, 2, none⟩ (.slice (some ⟨g9, 0, none⟩) (vs.length + 1) cap9)).heap.size := by
  have hlb : b7 < wr.heap.size := (Array.getElem?_eq_some_iff.1 hb).1
  have hb8 : w8.heap[b7]? = some (.cells #[A0, A1, .slice va vn vc, A3] 25 (0, 0)) := (hf.block b7 hlb fun h => by have := hD b7 h; omega).trans hb
  have hsz : wr.heap.size ≤ w8.heap.size := hf.size
  have hsz9 := hg.size
  simp only [World.size_alloc] at hsz9 hat
  have hg9 : b7 < g9 := by rcases hat with h | h; exact hq g9 h; omega
  have low : ∀ q, q < b7 → (w9.setCell ⟨b7, 2, none⟩ (.slice (some ⟨g9, 0, none⟩) (vs.length + 1) cap9)).heap[q]? = w8.heap[q]? := fun q hql =>
    (heap_setCell_other w9 _ q _ (by show q ≠ b7; omega)).trans ((hg.block q (by simp; omega) fun e => by have := hq q e.symm; omega).trans (Below.heap_alloc _ _ _ (by omega)))
  have h9 : w9.heap[b7]? = some (.cells #[A0, A1, .slice va vn vc, A3] 25 (0, 0)) :=
    (hg.block b7 (by simp; omega) fun e => by have := hq b7 e.symm; omega).trans ((Below.heap_alloc _ _ _ (by omega)).trans hb8)
  have hx8 : Ext w1 w8 := ext_frm (hx.trans' (ext_drew wr)) hf hDw
  refine ⟨hsc.keep fun q h1 h2 => low q (hD q h1), heap_setCell_same w9 b7 2 _ _ _ h9, ?_, fun q h => by injection h with h; have h := (show g9 = q from h); omega, ?_, by simp [World.setCell]; omega⟩
  · show World.ownsRow _ _ _ _ _ _ _
    rw [List.length_append, List.map_append]
    exact own_keep ho9 fun q h => heap_setCell_other w9 _ q _ (by injection h with h; have h := (show g9 = q from h); show q ≠ b7; omega)
  refine ⟨(show _ = _ from hg.os).trans hx8.os, (show _ = _ from hg.tape).trans hx8.tape, (show _ = _ from hg.output).trans hx8.output, by simp [World.setCell]; have := hx8.size; omega, fun q h => ?_⟩
  exact (low q (by omega)).trans (hx8.block q h)

set_option maxRecDepth 100000 in
set_option maxHeartbeats 8000000 in
theorem read_any {F : Nat → Prop} {w : World} {a : Option Addr} {n c : Nat} {b : By} (hb : ByF F w a n c b) (hn : n ≤ 1000000000) :
    Calls Tryz.prog 61 #[.slice a n c] w (ReadV b w) := by
  have HNB := hid (show n = b.length from hb.1)
  have HB := hid hb
  have hR := fun W (hW : Ext w W) => Rows_any (hb.below hW) hn
  obtain ⟨rw_, hrw⟩ : ∃ r, r = rowsB b := ⟨_, rfl⟩
  rw [← hrw] at hR
  have HR := hid hR
  have HRW := hid hrw
  obtain ⟨rows, rn⟩ := rw_
  clear hb hR hrw
  go_enter Tryz.func61, Tryz.ntmps61
  go_wp2_with fail
  generalize hW0 : w.alloc (.cells #[.int .i64 0, .int .i64 0, .slice none 0 0, .slice none 0 0] 25) = W0
  have hx0 : Ext w W0 := by rw [← hW0]; exact ext_alloc _ _
  have hz0 : W0.heap.size = w.heap.size + 1 := by rw [← hW0]; simp
  have hq0 : W0.heap[w.heap.size]? = some (.cells #[.int .i64 0, .int .i64 0, .slice none 0 0, .slice none 0 0] 25 (0, 0)) := by rw [← hW0]; exact heap_alloc_new _ _
  have HX0 := hid hx0
  have HZ0 := hid hz0
  have HQ0 := hid hq0
  clear hW0 hx0 hz0 hq0
  refine Calls.mono (HR.out W0 HX0.out) ?_
  rintro e w1 ⟨la, ln, lc, rfl, hrow, hx1⟩
  have hx01 : Ext w w1 := HX0.out.trans' hx1
  have HROW := hid hrow
  have HX1 := hid hx1
  have HX01 := hid hx01
  dsimp only at *
  have facts : ∀ W, Ext w1 W → W.heap[w.heap.size]? = some (.cells #[.int .i64 0, .int .i64 0, .slice none 0 0, .slice none 0 0] 25 (0, 0)) := fun W hW =>
    (hW.block _ (by have := HX1.out.size; have := HZ0.out; omega)).trans ((HX1.out.block _ (by have := HZ0.out; omega)).trans HQ0.out)
  have HFA := hid facts
  have hfail : ∀ W, Ext w1 W → (∀ s, checkS s = 0 → fileB s ≠ b) → ReadV b w (.returned (.tuple #[snZero, .bool false])) W := fun W hW h => ⟨HX01.out.trans' hW, .inr ⟨h, rfl⟩⟩
  have HFAIL := hid hfail
  have hln : ln = rows.length := by
    rcases HROW.out.form with ⟨e, e2⟩ | ⟨g, c', e, -, -⟩
    · injection e with _ e _; rw [e, e2]; rfl
    injection e with _ e _
  have HLN := hid hln
  clear hrow hx1 hx01 facts hfail hln
  by_cases h1 : rn = n ∧ 0 < ln
  · obtain ⟨h1a, h1b⟩ := h1
    have hrows : ∃ hd tl, rows = hd :: tl := by
      cases rows with
      | nil => rw [HLN.out] at h1b; simp at h1b
      | cons hd tl => exact ⟨hd, tl, rfl⟩
    obtain ⟨hd, tl, rfl⟩ := hrows
    obtain ⟨bd1, bd2, bd3, bd4⟩ := rowsB_bound b.length b (Nat.le_refl _)
    rw [← HRW.out] at bd1 bd2 bd3 bd4
    dsimp only at bd1 bd2 bd3 bd4
    have hbs := HROW.out.bs (by have := HNB.out; omega)
    obtain ⟨rb, ro, e, hrl, hl0, a0, n0, c0, hc0, hb0⟩ := hbs.at_ (k := 0) h1b
    subst e
    rw [Nat.add_zero] at hc0
    change ByF _ w1 a0 n0 c0 hd at hb0
    have hn0 : n0 ≤ 65536 := by rw [hb0.1]; exact bd3 hd (List.mem_cons_self ..)
    have HOV := hid (Over_any hb0 (by omega))
    have HB0 := hid (show n0 = hd.length from hb0.1)
    have hln0 : (ln == 0) = false := by simp; omega
    have hln1 : 0 < ln := h1b
    have HBD3 := hid bd3
    have HBD4 := hid bd4
    have HBS := hid hbs
    subst h1a
    clear bd1 bd2 bd3 bd4 hb0 hbs h1b hl0
    go_wp2_with fail
    refine Calls.mono HOV.out ?_
    rintro e w2 ⟨g, rfl, hg, hsc, hx2⟩
    obtain ⟨D0, hD0⟩ : ∃ D0 : Nat → Prop, D0 = fun q => w1.heap.size ≤ q ∧ q < w2.heap.size := ⟨_, rfl⟩
    rw [← hD0] at hsc
    have hd0 : ∀ q, D0 q → w1.heap.size ≤ q ∧ q < w2.heap.size := by intro q hq; rw [hD0] at hq; exact hq
    have HD0 := hid hd0
    clear hD0 hd0
    obtain ⟨s0, hs0⟩ : ∃ s0 : Sc, s0 = ⟨hd, 0, 0⟩ := ⟨_, rfl⟩
    rw [← hs0] at hsc
    have hb0 : s0.at_ ≤ s0.b.length := by rw [hs0]; exact Nat.zero_le _
    obtain ⟨q10, q11, q12, q13, q14⟩ := Sc.num_bound s0 hb0
    obtain ⟨q20, q21, q22, q23, q24⟩ := Sc.num_bound s0.num.2 (by rw [q11]; exact q12)
    obtain ⟨q30, q31, q32, q33, q34⟩ := Sc.num_bound s0.num.2.num.2 (by rw [q21, q11] at *; rw [q11] at q22; exact q22)
    have hexp : ∀ s, checkS s = 0 → fileB s = b → (s0.num.1 : Int) = s.i ∧ (s0.num.2.num.1 : Int) = s.t ∧ (s0.num.2.num.2.num.1 : Int) = s.vs.length ∧ s0.num.2.num.2.num.2.err = 0 ∧
        s0.num.2.num.2.num.2.b.drop s0.num.2.num.2.num.2.at_ = (s.vs.map numS).flatten ++ numS (s.d.length : Int) ∧ tl = chunksB s.d := by
      intro s hs he
      have h2 := rowsB_file hs
      rw [he, ← HRW.out] at h2
      injection h2 with h3 h4
      injection h3 with h5 h6
      obtain ⟨⟨k1, k2⟩, ⟨k3, k4⟩, -, k5, -, k6⟩ := checkS_ok hs
      have e0 : s0.b.drop s0.at_ = numS s.i ++ (numS s.t ++ (numS (s.vs.length : Int) ++ ((s.vs.map numS).flatten ++ numS (s.d.length : Int)))) := by
        rw [hs0]
        show hd.drop 0 = _
        rw [List.drop_zero, h5]
        unfold headS
        simp only [List.append_assoc]
      obtain ⟨a1, a2, a3, a4⟩ := Sc.num_at (by rw [hs0]) e0 (by omega) (by omega)
      obtain ⟨b1, b2, b3, b4⟩ := Sc.num_at a2 a4 (by omega) (by omega)
      obtain ⟨c1, c2, c3, c4⟩ := Sc.num_at b2 b4 (by omega) (by omega)
      exact ⟨a1, b1, c1, c2, c4, h6⟩
    have HEXP := hid hexp
    have hN1 := SNumber_any hsc
    have hN2 := fun W h => SNumber_any (D := D0) (w := W) (g := g) (s := s0.num.2) h
    have hN3 := fun W h => SNumber_any (D := D0) (w := W) (g := g) (s := s0.num.2.num.2) h
    have hsb : s0.num.2.num.2.num.2.b = hd := by rw [q31, q21, q11, hs0]
    have hs0b : s0.b = hd := by rw [hs0]
    have hsa : s0.num.2.num.2.num.2.at_ ≤ hd.length := by rw [q21, q11, hs0b] at q32; exact q32
    obtain ⟨n1, hn1⟩ : ∃ n1, n1 = s0.num.1 := ⟨_, rfl⟩
    obtain ⟨n2, hn2⟩ : ∃ n2, n2 = s0.num.2.num.1 := ⟨_, rfl⟩
    obtain ⟨n3, hn3⟩ : ∃ n3, n3 = s0.num.2.num.2.num.1 := ⟨_, rfl⟩
    obtain ⟨s1, hs1⟩ : ∃ s1, s1 = s0.num.2 := ⟨_, rfl⟩
    rw [← hn1] at HEXP hN1 q10
    rw [← hs1] at HEXP hN1 hN2 hN3 hsb hsa hn2 hn3 q20 q30
    rw [← hn2] at HEXP hN2 q20
    obtain ⟨s2, hs2⟩ : ∃ s2, s2 = s1.num.2 := ⟨_, rfl⟩
    rw [← hs2] at HEXP hN2 hN3 hsb hsa hn3 q30
    rw [← hn3] at HEXP hN3 q30
    obtain ⟨s3, hs3⟩ : ∃ s3, s3 = s2.num.2 := ⟨_, rfl⟩
    rw [← hs3] at HEXP hN3 hsb hsa
    have HN1 := hid hN1
    have HN2 := hid hN2
    have HN3 := hid hN3
    have HSB := hid hsb
    have HSA := hid hsa
    have HX2 := hid hx2
    have HGW := hid hg
    clear hs0b hexp hN1 hN2 hN3 hsb hsa hn1 hn2 hn3 hs0 hs1 hs2 hs3 hsc hx2 hg q11 q12 q13 q14 q21 q22 q23 q24 q31 q32 q33 q34 hb0 HOV
    go_wp2_with fail
    refine Calls.mono HN1.out ?_
    rintro e w3 ⟨rfl, hsc3, hf3⟩
    have HS3 := hid hsc3
    have HF3 := hid hf3
    clear hsc3 hf3
    go_wp2_with fail
    refine Calls.mono (HN2.out w3 HS3.out) ?_
    rintro e w4 ⟨rfl, hsc4, hf4⟩
    have HS4 := hid hsc4
    have HF4 := hid (HF3.out.trans hf4 fun q hq => .inl hq)
    clear hsc4 hf4 HS3 HF3
    go_wp2_with fail
    obtain ⟨b7, hb7⟩ : ∃ b7, b7 = w4.heap.size := ⟨_, rfl⟩
    have hx14 : Ext w1 w4 := ext_frm HX2.out HF4.out fun q hq => (HD0.out q hq).1
    have h24 : w2.heap.size ≤ w4.heap.size := HF4.out.size
    have hbox : (w4.alloc (.cells #[.int .i64 n1, .int .i64 n2, .slice none 0 0, .slice none 0 0] 25)).heap[b7]? = some (.cells #[.int .i64 n1, .int .i64 n2, .slice none 0 0, .slice none 0 0] 25 (0, 0)) := by rw [hb7]; exact heap_alloc_new _ _
    have hx15 := hx14.trans' (ext_alloc w4 (.cells #[.int .i64 n1, .int .i64 n2, .slice none 0 0, .slice none 0 0] 25))
    have hs5 := HS4.out.ext (ext_alloc w4 (.cells #[.int .i64 n1, .int .i64 n2, .slice none 0 0, .slice none 0 0] 25))
    have hb7D : ¬ D0 b7 := fun h => by have := (HD0.out b7 h).2; omega
    rw [← hb7]
    have h5z : (w4.alloc (.cells #[.int .i64 n1, .int .i64 n2, .slice none 0 0, .slice none 0 0] 25)).heap.size = b7 + 1 := by rw [hb7]; simp
    generalize w4.alloc (.cells #[.int .i64 n1, .int .i64 n2, .slice none 0 0, .slice none 0 0] 25) = W5 at *
    have h15 : w1.heap.size ≤ b7 := by have := HX2.out.size; omega
    refine Calls.mono (HN3.out W5 hs5) ?_
    rintro e w6 ⟨rfl, hsc6, hf6⟩
    have hbox6 := (hf6.block b7 (by omega) hb7D).trans hbox
    have hx16 : Ext w1 w6 := ext_frm hx15 hf6 fun q hq => (HD0.out q hq).1
    have h6z : b7 + 1 ≤ w6.heap.size := by have := hf6.size; omega
    have HB7D := hid hb7D
    have HBOX6 := hid hbox6
    have HX16 := hid hx16
    have HSC6 := hid hsc6
    have H6Z := hid h6z
    have H15 := hid h15
    have HFACT := hid (show (∀ q, D0 q → q < b7) from fun q hq => by have := (HD0.out q hq).2; omega)
    clear hx14 h24 hbox hx15 hs5 hb7D h5z h15 hsc6 hf6 hbox6 hx16 h6z HS4 HF4
    clear hb7
    go_wp2
    go_loopw [9] (fun z wr => ∃ (k : Nat) (sc : Sc) (vs : List Int) (va : Option Addr) (vn vc : Nat), z = .int .i64 (k : Int) ∧ Hid (ScAt D0 wr g sc) ∧ Hid (wr.heap[b7]? = some (.cells #[.int .i64 n1, .int .i64 n2, .slice va vn vc, .slice none 0 0] 25 (0, 0))) ∧
        Hid (OwnI w.heap.size wr (.slice va vn vc) vs) ∧ Hid (∀ q, (Value.slice va vn vc).ownBlock = some q → b7 < q) ∧ Hid (vs.length = k ∧ ∀ x ∈ vs, In64 x) ∧ Hid (sc.b = hd ∧ sc.at_ ≤ hd.length) ∧ k ≤ 65537 ∧ Hid (k ≤ sc.at_ + (if sc.err = 0 then 0 else 1)) ∧ Hid (Ext w1 wr) ∧ b7 < wr.heap.size ∧
        Hid (∀ s, checkS s = 0 → fileB s = b → sc.err = 0 ∧ k ≤ s.vs.length ∧ vs = s.vs.take k ∧ sc.b.drop sc.at_ = ((s.vs.drop k).map numS).flatten ++ numS (s.d.length : Int))) (fun z _ => 65540 - (intOf z).toNat)
    case atStart =>
      refine ⟨0, s3, [], none, 0, 0, rfl, HSC6.out, HBOX6.out, World.ownsRow_nil _ _ _ _, (fun q hq => by cases hq), ⟨rfl, fun x hx => by cases hx⟩, ⟨HSB.out, HSA.out⟩, by omega, Nat.zero_le _, HX16.out, by have := H6Z.out; omega, ?_⟩
      intro s hs he
      obtain ⟨-, -, -, e4, e5, -⟩ := HEXP.out s hs he
      exact ⟨e4, Nat.zero_le _, by simp, by simpa using e5⟩
    obtain ⟨k, sc, vs, va, vn, vc, rfl, LS, LB, LO, LQ, LV, LSB, hk, LK, LX, hb7l, LE⟩ := hrel
    have hlvs : vs.length ≤ 65537 := by have := LV.out.1; omega
    by_cases hlt : k < n3
    · have HER := hid (Err_any LS.out)
      by_cases he : sc.err = 0
      · rw [he] at HER
        have hHE := hid he
        obtain ⟨⟨y0, y1, y2, y3⟩, ⟨z0, z1, z2, z3⟩, -⟩ := cells4 LB.out
        have HNk := hid (SNumber_any (LS.out.ext (ext_drew wr)))
        obtain ⟨p0, p1, p2, p3, p4⟩ := Sc.num_bound sc (by rw [LSB.out.1]; exact LSB.out.2)
        obtain ⟨x, hx⟩ : ∃ x, x = sc.num.1 := ⟨_, rfl⟩
        rw [← hx] at HNk p0
        have HXE := hid hx
        have HP1 := hid p1
        have HP2 := hid p2
        have HP3 := hid p3
        have HP4 := hid p4
        clear p1 p2 p3 p4 he hx
        obtain ⟨i0, hi0, hz0, hz1, hz2⟩ := info_parts info_int
        go_wp2_with fail
        refine Calls.mono HER.out ?_
        rintro e w7 ⟨rfl, rfl⟩
        go_wp2
        go_region_law (first | (refine step_append_lies _ rfl (.tmp 48) (.tmp 51) 22 rfl w.heap.size 3 i0 (.int .i64 0) 1 8 Tryz.underlying22 hi0 hz0 hz1 hz2 rfl (by decide) (.slice va vn vc) vs.length (vs.map (Value.int .i64)) (by simp [Act.eval, Act.put]) HO9.out ⟨w8.heap.size, 0, none⟩ 1 1 [.int .i64 (x : Int)] (by simp [Act.eval, Act.put]) rfl HNEWS.out HONE.out (by decide) (by unfold maxLen; omega) (by omega) HBASE.out _ rfl ?_; intro g9 cap9 w9 hown9 hg9 hat9 hl9; obtain ⟨v0, v1, v2⟩ := HST.out w9 hg9; have HO10 := hid hown9; have HG9 := hid hg9; have HAT9 := hid hat9; clear hown9 hg9 hat9) | (go_simp; go_at_call 96; refine Calls.mono HNk.out ?_; rintro e w8 ⟨rfl, hsc8, hf8⟩; obtain ⟨o1, o2, o3, o4, o5, o6, o7, o8, o9⟩ := read_step hf8 LB.out LO.out LQ.out HFACT.out H15.out HX16.out x HX01.out.size; have HO9 := hid o2; have HNEWS := hid o3; have HONE := hid o4; have HBASE := hid o5; have HST := hid o6; have HSC8 := hid hsc8; have HF8 := hid hf8; clear hsc8 hf8 o2 o3 o4 o5 o6))
        all_goals
          have hnx := read_next HF8.out HSC8.out LB.out LO.out LQ.out HFACT.out H15.out LX.out HX01.out.size x HO10.out HG9.out HAT9.out (fun q hq => (HD0.out q hq).1)
          obtain ⟨m1, m2, m3, m4, m5, m6⟩ := hnx
          have hv1 := LV.out.1
          have hv2 := LV.out.2
          have hsb := LSB.out
          have hkk := LK.out
          rw [if_pos hHE.out] at hkk
          have hdl : hd.length ≤ 65536 := by have := HB0.out; omega
          have M1 := hid m1
          have M2 := hid m2
          have M3 := hid m3
          have M4 := hid m4
          have M5 := hid m5
          have M6 := hid m6
          have HVV := hid (show (vs ++ [(x : Int)]).length = k + 1 ∧ ∀ y ∈ vs ++ [(x : Int)], In64 y from ⟨by simp [hv1], fun y hy => by
            rcases List.mem_append.1 hy with h | h
            · exact hv2 y h
            rw [List.mem_singleton] at h; rw [h]; exact ⟨by omega, by omega⟩⟩)
          have HSB2 := hid (show sc.num.2.b = hd ∧ sc.num.2.at_ ≤ hd.length from ⟨by rw [HP1.out, hsb.1], by have := HP2.out; rw [hsb.1] at this; exact this⟩)
          have HK2 := hid (show k + 1 ≤ sc.num.2.at_ + (if sc.num.2.err = 0 then 0 else 1) by
            have h3 := HP3.out
            have h4 := HP4.out
            split
            · rename_i h; have := (h4 h).2; omega
            omega)
          have HE2 := hid (show ∀ s, checkS s = 0 → fileB s = b → sc.num.2.err = 0 ∧ k + 1 ≤ s.vs.length ∧ vs ++ [(x : Int)] = s.vs.take (k + 1) ∧ sc.num.2.b.drop sc.num.2.at_ = ((s.vs.drop (k + 1)).map numS).flatten ++ numS (s.d.length : Int) by
            intro s hs he
            obtain ⟨e1, e2, e3, e4⟩ := LE.out s hs he
            obtain ⟨-, -, f3, -, -, -⟩ := HEXP.out s hs he
            have hkl : k < s.vs.length := by omega
            obtain ⟨-, -, -, -, f5, -⟩ := checkS_ok hs
            have f6 := f5 s.vs[k] (List.getElem_mem _)
            rw [List.drop_eq_getElem_cons hkl, List.map_cons, List.flatten_cons, List.append_assoc] at e4
            obtain ⟨t1, t2, t3, t4⟩ := Sc.num_at e1 e4 (by omega) (by omega)
            refine ⟨t2, by omega, ?_, t4⟩
            rw [List.take_succ_eq_append_getElem hkl, ← e3, ← t1, HXE.out])
          have hk1 : k + 1 ≤ 65537 := by have := hsb.2; omega
          have hb7z : b7 < (w9.setCell ⟨b7, 2, none⟩ (.slice (some ⟨g9, 0, none⟩) (vs.length + 1) cap9)).heap.size := m6
          clear m1 m2 m3 m4 m5 m6 hv1 hv2 hsb hkk
          go_wp2
          refine ⟨⟨k + 1, sc.num.2, vs ++ [(x : Int)], some ⟨g9, 0, none⟩, vs.length + 1, cap9, by go_num, M1.out, M2.out, M3.out, M4.out, HVV.out, HSB2.out, hk1, HK2.out, M5.out, hb7z, HE2.out⟩, ?_⟩
          simp [intOf]; omega
      have HEE := hid (show ∀ s, checkS s = 0 → fileB s = b → sc.err = 0 ∧ vs = s.vs ∧ sc.b.drop sc.at_ = numS (s.d.length : Int) from fun s hs hf => absurd (LE.out s hs hf).1 he)
      have hbe : (sc.err == 0) = false := by simpa using he
      obtain ⟨ez, hez⟩ : ∃ ez, ez = sc.err := ⟨_, rfl⟩
      rw [← hez] at HER hbe
      have HNk := hid (SNumber_any LS.out)
      clear he hez
      go_wp2_with fail
      refine Calls.mono HER.out ?_
      rintro e w7 ⟨rfl, rfl⟩
      go_wp2_with fail
      refine Calls.mono HNk.out ?_
      rintro e w8 ⟨rfl, hsc8, hf8⟩
      obtain ⟨p0, -⟩ := Sc.num_bound sc (by rw [LSB.out.1]; exact LSB.out.2)
      have hE2 : ∀ s, checkS s = 0 → fileB s = b → (sc.num.1 : Int) = s.d.length ∧ sc.num.2.end_.1 = 0 ∧ vs = s.vs := by
        intro s hs hf
        obtain ⟨e1, e2, e3⟩ := HEE.out s hs hf
        obtain ⟨-, -, -, -, -, f6⟩ := checkS_ok hs
        obtain ⟨t1, t2, t3, t4⟩ := Sc.num_at (x := (s.d.length : Int)) (r := []) e1 (by rw [e3, List.append_nil]) (by omega) (by omega)
        refine ⟨t1, ?_, e2⟩
        have hl := congrArg List.length t4
        rw [List.length_drop] at hl
        unfold Sc.end_
        rw [if_neg (by intro h; have := h.2; simp at hl; omega)]
        exact t2
      have hEnd := End_any hsc8
      obtain ⟨x, hx⟩ : ∃ x, x = sc.num.1 := ⟨_, rfl⟩
      obtain ⟨ee, hee⟩ : ∃ ee, ee = sc.num.2.end_.1 := ⟨_, rfl⟩
      rw [← hee] at hEnd hE2
      rw [← hx] at hE2 p0 ⊢
      have HEnd := hid hEnd
      have HE3 := hid hE2
      have HX8 := hid (ext_frm LX.out hf8 fun q hq => (HD0.out q hq).1)
      have HF8 := hid hf8
      clear hsc8 hf8 hEnd hE2 hx hee
      go_wp2_with fail
      refine Calls.mono HEnd.out ?_
      rintro e w9 ⟨rfl, hf9⟩
      have HX9 := hid (ext_frm HX8.out hf9 fun q hq => (HD0.out q hq).1)
      have HF9 := hid (Frm.trans HF8.out hf9 fun q hq => .inl hq)
      clear hf9
      by_cases hbad : ee ≠ 0 ∨ 262144 < x
      · have hno : ∀ s, checkS s = 0 → fileB s ≠ b := by
          intro s hs hf
          obtain ⟨e1, e2, -⟩ := HE3.out s hs hf
          obtain ⟨-, -, -, -, -, f6⟩ := checkS_ok hs
          rcases hbad with h | h
          · exact h e2
          omega
        have HNO := hid hno
        obtain ⟨⟨c0, c1, c2, c3⟩, ⟨f0, f1, f2, f3⟩, hl⟩ := cells4 (HFA.out w9 HX9.out)
        by_cases he0 : ee = 0
        · have hbx : 262144 < x := by rcases hbad with h | h; exact absurd he0 h; exact h
          subst he0
          clear hno hbad
          go_wp2
          exact read_fail rfl rfl (HFA.out w9 HX9.out) (HX01.out.trans' HX9.out) HNO.out
        have hbe2 : (ee != 0) = true := by simpa using he0
        clear hno hbad he0
        go_wp2
        exact read_fail rfl rfl (HFA.out w9 HX9.out) (HX01.out.trans' HX9.out) HNO.out
      have he0 : ee = 0 := by omega
      have hx262 : x ≤ 262144 := by omega
      subst he0
      clear hbad
      obtain ⟨a3, m3, k3, sl1, sl2, hb3⟩ := bs_tail (HBS.out.below HX9.out)
      have htot : tl.flatten.length ≤ 1000000000 := by
        have h1 := HBD4.out
        rw [List.flatten_cons, List.length_append] at h1
        have := HNB.out
        omega
      have hJ := Join_any hb3 (by omega)
      obtain ⟨dd, hdd⟩ : ∃ dd, dd = tl.flatten := ⟨_, rfl⟩
      rw [← hdd] at hJ htot
      have HJ := hid hJ
      have HDD := hid hdd
      have hb79 : w9.heap[b7]? = some (.cells #[.int .i64 n1, .int .i64 n2, .slice va vn vc, .slice none 0 0] 25 (0, 0)) := (HF9.out.block b7 hb7l fun h => Nat.lt_irrefl _ (HFACT.out b7 h)).trans LB.out
      have HB79 := hid hb79
      clear hb3 hJ hdd hb79
      go_wp2_with fail
      refine Calls.mono HJ.out ?_
      rintro e w10 ⟨gd, dn, dc, rfl, hown10, hx10⟩
      have HX10 := hid (HX9.out.trans' hx10)
      have hb10 := (hx10.block b7 (Array.getElem?_eq_some_iff.1 HB79.out).1).trans HB79.out
      obtain ⟨⟨k0, k1, k2, k4⟩, ⟨j0, j1, j2, j3⟩, jl⟩ := cells4 hb10
      have HB10 := hid hb10
      have HO10 := hid hown10
      have HX910 := hid hx10
      clear hown10 hx10 hb10
      go_wp2
      have hk7 := heap_setCell_same w10 b7 3 _ _ (.slice (some ⟨gd, 0, none⟩) dn dc) HB10.out
      have hoth : ∀ q, q ≠ b7 → (w10.setCell ⟨b7, 3, none⟩ (.slice (some ⟨gd, 0, none⟩) dn dc)).heap[q]? = w10.heap[q]? := fun q hq => heap_setCell_other w10 _ q _ hq
      have hszn : (w10.setCell ⟨b7, 3, none⟩ (.slice (some ⟨gd, 0, none⟩) dn dc)).heap.size = w10.heap.size := by simp [World.setCell]
      have hx1n : Ext w1 (w10.setCell ⟨b7, 3, none⟩ (.slice (some ⟨gd, 0, none⟩) dn dc)) := HX10.out.setCell H15.out _
      generalize w10.setCell ⟨b7, 3, none⟩ (.slice (some ⟨gd, 0, none⟩) dn dc) = Wn at *
      have hdnl : dn = dd.length := HO10.out.1
      have hvl := LV.out.1
      have hv7 : vs.length ≤ 1000000000000 := by omega
      have hbx : ∀ W2, Ext Wn W2 → W2.heap[b7]? = some (.cells #[.int .i64 n1, .int .i64 n2, .slice va vn vc, .slice (some ⟨gd, 0, none⟩) dn dc] 25 (0, 0)) := fun W2 hW => (hW.block b7 (Array.getElem?_eq_some_iff.1 hk7).1).trans hk7
      have hsn : SnV (fun q => w1.heap.size ≤ q ∧ q < Wn.heap.size) Wn (.agg #[.int .i64 n1, .int .i64 n2, .slice va vn vc, .slice (some ⟨gd, 0, none⟩) dn dc]) ⟨n1, n2, vs, dd⟩ := by
        refine ⟨va, vn, vc, some ⟨gd, 0, none⟩, dn, dc, rfl, ⟨by show _ ≤ (n1 : Int); omega, by show (n1 : Int) ≤ _; omega⟩, ⟨by show _ ≤ (n2 : Int); omega, by show (n2 : Int) ≤ _; omega⟩, ?_, ?_⟩
        · refine LO.out.any hv7 LV.out.2 (fun q hq => ?_) (fun q hq => ?_)
          · have h1 := LQ.out q hq
            have h2 := (own_cells LO.out hq).1
            have h3 := HF9.out.size
            rw [hoth q (by omega), HX910.out.block q (by omega)]
            exact HF9.out.block q h2 fun h => by have := HFACT.out q h; omega
          have h1 := LQ.out q hq
          have h2 := (own_cells LO.out hq).1
          have h3 := HF9.out.size
          have h4 := HX910.out.size
          have h5 := H15.out
          omega
        refine (HO10.out.by_ (by omega)).keep fun q hq hl => ⟨⟨by have := hq.1; have := HX9.out.size; omega, by omega⟩, hoth q (by have := hq.1; have := (Array.getElem?_eq_some_iff.1 HB79.out).1; omega)⟩
      have hsame : ∀ s, checkS s = 0 → fileB s = b → s = ⟨n1, n2, vs, dd⟩ ∧ x = dd.length := by
        intro s hs hf
        obtain ⟨e1, -, e3⟩ := HE3.out s hs hf
        obtain ⟨g1, g2, -, -, -, g6⟩ := HEXP.out s hs hf
        have g7 : dd = s.d := by rw [HDD.out, g6, chunksB_flat]
        obtain ⟨si, st, svs, sd⟩ := s
        dsimp only at *
        subst g7
        rw [← g1, ← g2, e3]
        exact ⟨rfl, by omega⟩
      have HBX := hid hbx
      have HSN := hid hsn
      have HSAME := hid hsame
      have HX1N := hid hx1n
      have HDNL := hid hdnl
      clear hk7 hoth hszn hx1n hdnl hvl hv7 hbx hsn hsame k0 k1 k2 k4 j0 j1 j2 j3
      have HXWN := hid (HX01.out.trans' HX1N.out)
      have hzw : w.heap.size < w1.heap.size := by have := HX1.out.size; have := HZ0.out; omega
      have HZW := hid hzw
      have hd0 : dn ≤ 1099511627776 := by have := HDNL.out; omega
      clear hzw
      refine read_region HB HXWN HBX HSN HDNL HSAME hd0 (fun _ _ d _ _ h => by cases d <;> exact h) ?_
      intro r m68 m69 m70 m71 m72 m73 m74 m75 m76 m77 m78 m79 m80 m81 m82 m83 m84 m85 Wr hWr hr0 hr1
      have hxf := HX1N.out.trans' hWr
      cases r with
      | true =>
        have HNO := hid (hr1 rfl)
        clear hr0 hr1
        obtain ⟨⟨c0, c1, c2, c3⟩, ⟨f0, f1, f2, f3⟩, hl⟩ := cells4 (HFA.out _ hxf)
        go_wp2
        exact read_fail rfl rfl (HFA.out _ hxf) (HX01.out.trans' hxf) HNO.out
      | false =>
        obtain ⟨hck, hff⟩ := hr0 rfl
        have HCK := hid hck
        have HFF := hid hff
        have HSV := hid ((HSN.out.below hWr).more (G := fun q => w.heap.size < q ∧ q < Wr.heap.size) fun q hq => ⟨by have := HZW.out; omega, by have := hWr.size; omega⟩)
        clear hr0 hr1 hck hff
        obtain ⟨⟨c0, c1, c2, c3⟩, ⟨f0, f1, f2, f3⟩, hl⟩ := cells4 (HFA.out _ hxf)
        obtain ⟨⟨k0, k1, k2, k4⟩, -, -⟩ := cells4 (HBX.out _ hWr)
        go_wp2
        exact read_ok rfl rfl (HFA.out _ hxf) (HX01.out.trans' hxf) HSV.out HCK.out HFF.out
    have HEE := hid (show ∀ s, checkS s = 0 → fileB s = b → sc.err = 0 ∧ vs = s.vs ∧ sc.b.drop sc.at_ = numS (s.d.length : Int) from fun s hs hf => by
      obtain ⟨e1, e2, e3, e4⟩ := LE.out s hs hf
      obtain ⟨-, -, f3, -, -, -⟩ := HEXP.out s hs hf
      have hke : k = s.vs.length := by omega
      rw [hke, List.take_of_length_le (Nat.le_refl _)] at e3
      rw [hke, List.drop_of_length_le (Nat.le_refl _)] at e4
      exact ⟨e1, e3, by simpa using e4⟩)
    have HNk := hid (SNumber_any LS.out)
    go_wp2_with fail
    refine Calls.mono HNk.out ?_
    rintro e w8 ⟨rfl, hsc8, hf8⟩
    obtain ⟨p0, -⟩ := Sc.num_bound sc (by rw [LSB.out.1]; exact LSB.out.2)
    have hE2 : ∀ s, checkS s = 0 → fileB s = b → (sc.num.1 : Int) = s.d.length ∧ sc.num.2.end_.1 = 0 ∧ vs = s.vs := by
      intro s hs hf
      obtain ⟨e1, e2, e3⟩ := HEE.out s hs hf
      obtain ⟨-, -, -, -, -, f6⟩ := checkS_ok hs
      obtain ⟨t1, t2, t3, t4⟩ := Sc.num_at (x := (s.d.length : Int)) (r := []) e1 (by rw [e3, List.append_nil]) (by omega) (by omega)
      refine ⟨t1, ?_, e2⟩
      have hl := congrArg List.length t4
      rw [List.length_drop] at hl
      unfold Sc.end_
      rw [if_neg (by intro h; have := h.2; simp at hl; omega)]
      exact t2
    have hEnd := End_any hsc8
    obtain ⟨x, hx⟩ : ∃ x, x = sc.num.1 := ⟨_, rfl⟩
    obtain ⟨ee, hee⟩ : ∃ ee, ee = sc.num.2.end_.1 := ⟨_, rfl⟩
    rw [← hee] at hEnd hE2
    rw [← hx] at hE2 p0 ⊢
    have HEnd := hid hEnd
    have HE3 := hid hE2
    have HX8 := hid (ext_frm LX.out hf8 fun q hq => (HD0.out q hq).1)
    have HF8 := hid hf8
    clear hsc8 hf8 hEnd hE2 hx hee
    go_wp2_with fail
    refine Calls.mono HEnd.out ?_
    rintro e w9 ⟨rfl, hf9⟩
    have HX9 := hid (ext_frm HX8.out hf9 fun q hq => (HD0.out q hq).1)
    have HF9 := hid (Frm.trans HF8.out hf9 fun q hq => .inl hq)
    clear hf9
    by_cases hbad : ee ≠ 0 ∨ 262144 < x
    · have hno : ∀ s, checkS s = 0 → fileB s ≠ b := by
        intro s hs hf
        obtain ⟨e1, e2, -⟩ := HE3.out s hs hf
        obtain ⟨-, -, -, -, -, f6⟩ := checkS_ok hs
        rcases hbad with h | h
        · exact h e2
        omega
      have HNO := hid hno
      obtain ⟨⟨c0, c1, c2, c3⟩, ⟨f0, f1, f2, f3⟩, hl⟩ := cells4 (HFA.out w9 HX9.out)
      by_cases he0 : ee = 0
      · have hbx : 262144 < x := by rcases hbad with h | h; exact absurd he0 h; exact h
        subst he0
        clear hno hbad
        go_wp2
        exact read_fail rfl rfl (HFA.out w9 HX9.out) (HX01.out.trans' HX9.out) HNO.out
      have hbe2 : (ee != 0) = true := by simpa using he0
      clear hno hbad he0
      go_wp2
      exact read_fail rfl rfl (HFA.out w9 HX9.out) (HX01.out.trans' HX9.out) HNO.out
    have he0 : ee = 0 := by omega
    have hx262 : x ≤ 262144 := by omega
    subst he0
    clear hbad
    obtain ⟨a3, m3, k3, sl1, sl2, hb3⟩ := bs_tail (HBS.out.below HX9.out)
    have htot : tl.flatten.length ≤ 1000000000 := by
      have h1 := HBD4.out
      rw [List.flatten_cons, List.length_append] at h1
      have := HNB.out
      omega
    have hJ := Join_any hb3 (by omega)
    obtain ⟨dd, hdd⟩ : ∃ dd, dd = tl.flatten := ⟨_, rfl⟩
    rw [← hdd] at hJ htot
    have HJ := hid hJ
    have HDD := hid hdd
    have hb79 : w9.heap[b7]? = some (.cells #[.int .i64 n1, .int .i64 n2, .slice va vn vc, .slice none 0 0] 25 (0, 0)) := (HF9.out.block b7 hb7l fun h => Nat.lt_irrefl _ (HFACT.out b7 h)).trans LB.out
    have HB79 := hid hb79
    clear hb3 hJ hdd hb79
    go_wp2_with fail
    refine Calls.mono HJ.out ?_
    rintro e w10 ⟨gd, dn, dc, rfl, hown10, hx10⟩
    have HX10 := hid (HX9.out.trans' hx10)
    have hb10 := (hx10.block b7 (Array.getElem?_eq_some_iff.1 HB79.out).1).trans HB79.out
    obtain ⟨⟨k0, k1, k2, k4⟩, ⟨j0, j1, j2, j3⟩, jl⟩ := cells4 hb10
    have HB10 := hid hb10
    have HO10 := hid hown10
    have HX910 := hid hx10
    clear hown10 hx10 hb10
    go_wp2
    have hk7 := heap_setCell_same w10 b7 3 _ _ (.slice (some ⟨gd, 0, none⟩) dn dc) HB10.out
    have hoth : ∀ q, q ≠ b7 → (w10.setCell ⟨b7, 3, none⟩ (.slice (some ⟨gd, 0, none⟩) dn dc)).heap[q]? = w10.heap[q]? := fun q hq => heap_setCell_other w10 _ q _ hq
    have hszn : (w10.setCell ⟨b7, 3, none⟩ (.slice (some ⟨gd, 0, none⟩) dn dc)).heap.size = w10.heap.size := by simp [World.setCell]
    have hx1n : Ext w1 (w10.setCell ⟨b7, 3, none⟩ (.slice (some ⟨gd, 0, none⟩) dn dc)) := HX10.out.setCell H15.out _
    generalize w10.setCell ⟨b7, 3, none⟩ (.slice (some ⟨gd, 0, none⟩) dn dc) = Wn at *
    have hdnl : dn = dd.length := HO10.out.1
    have hvl := LV.out.1
    have hv7 : vs.length ≤ 1000000000000 := by omega
    have hbx : ∀ W2, Ext Wn W2 → W2.heap[b7]? = some (.cells #[.int .i64 n1, .int .i64 n2, .slice va vn vc, .slice (some ⟨gd, 0, none⟩) dn dc] 25 (0, 0)) := fun W2 hW => (hW.block b7 (Array.getElem?_eq_some_iff.1 hk7).1).trans hk7
    have hsn : SnV (fun q => w1.heap.size ≤ q ∧ q < Wn.heap.size) Wn (.agg #[.int .i64 n1, .int .i64 n2, .slice va vn vc, .slice (some ⟨gd, 0, none⟩) dn dc]) ⟨n1, n2, vs, dd⟩ := by
      refine ⟨va, vn, vc, some ⟨gd, 0, none⟩, dn, dc, rfl, ⟨by show _ ≤ (n1 : Int); omega, by show (n1 : Int) ≤ _; omega⟩, ⟨by show _ ≤ (n2 : Int); omega, by show (n2 : Int) ≤ _; omega⟩, ?_, ?_⟩
      · refine LO.out.any hv7 LV.out.2 (fun q hq => ?_) (fun q hq => ?_)
        · have h1 := LQ.out q hq
          have h2 := (own_cells LO.out hq).1
          have h3 := HF9.out.size
          rw [hoth q (by omega), HX910.out.block q (by omega)]
          exact HF9.out.block q h2 fun h => by have := HFACT.out q h; omega
        have h1 := LQ.out q hq
        have h2 := (own_cells LO.out hq).1
        have h3 := HF9.out.size
        have h4 := HX910.out.size
        have h5 := H15.out
        omega
      refine (HO10.out.by_ (by omega)).keep fun q hq hl => ⟨⟨by have := hq.1; have := HX9.out.size; omega, by omega⟩, hoth q (by have := hq.1; have := (Array.getElem?_eq_some_iff.1 HB79.out).1; omega)⟩
    have hsame : ∀ s, checkS s = 0 → fileB s = b → s = ⟨n1, n2, vs, dd⟩ ∧ x = dd.length := by
      intro s hs hf
      obtain ⟨e1, -, e3⟩ := HE3.out s hs hf
      obtain ⟨g1, g2, -, -, -, g6⟩ := HEXP.out s hs hf
      have g7 : dd = s.d := by rw [HDD.out, g6, chunksB_flat]
      obtain ⟨si, st, svs, sd⟩ := s
      dsimp only at *
      subst g7
      rw [← g1, ← g2, e3]
      exact ⟨rfl, by omega⟩
    have HBX := hid hbx
    have HSN := hid hsn
    have HSAME := hid hsame
    have HX1N := hid hx1n
    have HDNL := hid hdnl
    clear hk7 hoth hszn hx1n hdnl hvl hv7 hbx hsn hsame k0 k1 k2 k4 j0 j1 j2 j3
    have HXWN := hid (HX01.out.trans' HX1N.out)
    have hzw : w.heap.size < w1.heap.size := by have := HX1.out.size; have := HZ0.out; omega
    have HZW := hid hzw
    have hd0 : dn ≤ 1099511627776 := by have := HDNL.out; omega
    clear hzw
    refine read_region HB HXWN HBX HSN HDNL HSAME hd0 (fun _ _ d _ _ h => by cases d <;> exact h) ?_
    intro r m68 m69 m70 m71 m72 m73 m74 m75 m76 m77 m78 m79 m80 m81 m82 m83 m84 m85 Wr hWr hr0 hr1
    have hxf := HX1N.out.trans' hWr
    cases r with
    | true =>
      have HNO := hid (hr1 rfl)
      clear hr0 hr1
      obtain ⟨⟨c0, c1, c2, c3⟩, ⟨f0, f1, f2, f3⟩, hl⟩ := cells4 (HFA.out _ hxf)
      go_wp2
      exact read_fail rfl rfl (HFA.out _ hxf) (HX01.out.trans' hxf) HNO.out
    | false =>
      obtain ⟨hck, hff⟩ := hr0 rfl
      have HCK := hid hck
      have HFF := hid hff
      have HSV := hid ((HSN.out.below hWr).more (G := fun q => w.heap.size < q ∧ q < Wr.heap.size) fun q hq => ⟨by have := HZW.out; omega, by have := hWr.size; omega⟩)
      clear hr0 hr1 hck hff
      obtain ⟨⟨c0, c1, c2, c3⟩, ⟨f0, f1, f2, f3⟩, hl⟩ := cells4 (HFA.out _ hxf)
      obtain ⟨⟨k0, k1, k2, k4⟩, -, -⟩ := cells4 (HBX.out _ hWr)
      go_wp2
      exact read_ok rfl rfl (HFA.out _ hxf) (HX01.out.trans' hxf) HSV.out HCK.out HFF.out
  have hno : ∀ s, checkS s = 0 → fileB s ≠ b := by
    intro s hs he
    have h2 := rowsB_file hs
    rw [he, ← HRW.out] at h2
    injection h2 with h3 h4
    refine h1 ⟨by rw [h4, HNB.out], ?_⟩
    rw [HLN.out, h3]; simp [rowsS]
  have HNO := hid hno
  clear hno
  by_cases h2 : rn = n
  · have h3 : ln = 0 := by omega
    subst h3; subst h2
    clear h1
    obtain ⟨⟨c0, c1, c2, c3⟩, ⟨f0, f1, f2, f3⟩, hl⟩ := cells4 (HFA.out w1 (Below.refl _ _))
    go_wp2
    exact read_fail rfl rfl (HFA.out w1 (Below.refl _ _)) HX01.out HNO.out
  have hne : ((rn : Int) != (n : Int)) = true := by simp; omega
  clear h1 h2
  obtain ⟨⟨c0, c1, c2, c3⟩, ⟨f0, f1, f2, f3⟩, hl⟩ := cells4 (HFA.out w1 (Below.refl _ _))
  go_wp2
  exact read_fail rfl rfl (HFA.out w1 (Below.refl _ _)) HX01.out HNO.out
end Go.Proofs.YtjapeaoebjmpnaaGreatDoor
