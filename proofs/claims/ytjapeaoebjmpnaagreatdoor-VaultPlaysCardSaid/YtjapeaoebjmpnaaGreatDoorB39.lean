/- The walk of the reference's Read (06). Printed by gen_rx3.py. -/
import Derived.Test.YtjapeaoebjmpnaaGreatDoorB38
import Derived.Test.YtjapeaoebjmpnaaGreatDoorB20
namespace Go.Proofs.YtjapeaoebjmpnaaGreatDoor
open Go.RowKit Go.Maps
set_option linter.unusedVariables false
set_option linter.unusedSimpArgs false
attribute [local go_sem] bmax2 bmin2 bmax_two bmin_two

/-- Some numbers, one behind the other. -/
def numsG : Nat → Sc → List Int × Sc
  | 0, c => ([], c)
  | k + 1, c => ((numsG k c).1 ++ [((numsG k c).2.num.1 : Int)], (numsG k c).2.num.2)
theorem numsG_len : ∀ k c, (numsG k c).1.length = k := by
  intro k
  induction k with
  | zero => intro c; rfl
  | succ k ih => intro c; show ((numsG k c).1 ++ [_]).length = _; rw [List.length_append, ih]; rfl
theorem numsG_at {vs : List Int} {r : By} (hv : ∀ x ∈ vs, 0 ≤ x ∧ x < 9223372036854775808) {c : Sc} (he : c.err = 0) (h : c.b.drop c.at_ = (vs.map numS).flatten ++ r) :
    ∀ k, k ≤ vs.length → (numsG k c).1 = vs.take k ∧ (numsG k c).2.err = 0 ∧ (numsG k c).2.b = c.b ∧ (numsG k c).2.b.drop (numsG k c).2.at_ = ((vs.drop k).map numS).flatten ++ r := by
  intro k
  induction k with
  | zero => intro _; exact ⟨rfl, he, rfl, by rw [List.drop_zero]; exact h⟩
  | succ k ih =>
    intro hk
    obtain ⟨i1, i2, i3, i4⟩ := ih (by omega)
    have hkl : k < vs.length := by omega
    rw [List.drop_eq_getElem_cons hkl, List.map_cons, List.flatten_cons, List.append_assoc] at i4
    have hx := hv vs[k] (List.getElem_mem hkl)
    obtain ⟨j1, j2, j3, j4⟩ := Sc.num_at i2 i4 hx.1 hx.2
    refine ⟨?_, j2, j3.trans i3, j4⟩
    show (numsG k c).1 ++ [((numsG k c).2.num.1 : Int)] = _
    rw [i1, j1, List.take_succ_eq_append_getElem hkl]
/-- What is read out of a file's records. -/
def refQ (H : By) (tl : List By) : Sn :=
  ⟨((⟨H, 0, 0⟩ : Sc).num.1 : Int), ((⟨H, 0, 0⟩ : Sc).num.2.num.1 : Int), (numsG (min (⟨H, 0, 0⟩ : Sc).num.2.num.2.num.1 8) (⟨H, 0, 0⟩ : Sc).num.2.num.2.num.2).1, tl.flatten⟩
theorem refQ_same {s : Sn} (h : checkS s = 0) : refQ (headS s) (chunksB s.d) = s := by
  obtain ⟨⟨k1, k2⟩, ⟨k3, k4⟩, -, k5, k6, k7⟩ := checkS_ok h
  have h0 : ((⟨headS s, 0, 0⟩ : Sc).b.drop (⟨headS s, 0, 0⟩ : Sc).at_) = numS s.i ++ (numS s.t ++ (numS (s.vs.length : Int) ++ ((s.vs.map numS).flatten ++ numS (s.d.length : Int)))) := by
    show (headS s).drop 0 = _
    rw [List.drop_zero]
    unfold headS
    simp only [List.append_assoc]
  obtain ⟨a1, a2, -, a4⟩ := Sc.num_at (s := ⟨headS s, 0, 0⟩) rfl h0 (by omega) (by omega)
  obtain ⟨b1, b2, -, b4⟩ := Sc.num_at a2 a4 (by omega) (by omega)
  obtain ⟨c1, c2, -, c4⟩ := Sc.num_at b2 b4 (by omega) (by omega)
  have c1 : (⟨headS s, 0, 0⟩ : Sc).num.2.num.2.num.1 = s.vs.length := by omega
  obtain ⟨d1, -⟩ := numsG_at (vs := s.vs) (fun x hx => by have := k6 x hx; omega) c2 c4 s.vs.length (Nat.le_refl _)
  unfold refQ
  rw [a1, b1, c1, Nat.min_eq_left (by omega), d1, List.take_length, chunksB_flat]
theorem four_set2 {w : World} {g : Nat} {x0 x1 x2 x3 : Value} {t : TypeId} (h : w.heap[g]? = some (.cells #[x0, x1, x2, x3] t (0, 0))) (y0 y1 y2 y3 : Value) :
    SetG g t w ((((w.setCell ⟨g, 0, none⟩ y0).setCell ⟨g, 1, none⟩ y1).setCell ⟨g, 2, none⟩ y2).setCell ⟨g, 3, none⟩ y3) #[y0, y1, y2, y3] :=
  ((((SetG.start h).step 0 y0).step 1 y1).step 2 y2).step 3 y3
def R6Post (b : By) (w : World) (e : Ending) (w' : World) : Prop :=
  Ext w w' ∧ ∃ (q : Sn) (y0 y1 y2 y3 : Value) (ok : Bool), SnV (fun x => w.heap.size ≤ x ∧ x < w'.heap.size) w' (.agg #[y0, y1, y2, y3]) q ∧ e = .returned (.tuple #[.agg #[y0, y1, y2, y3], .bool ok]) ∧
    ((ok = true ∧ checkS q = 0 ∧ fileB q = b) ∨ (ok = false ∧ ∀ s, checkS s = 0 → fileB s ≠ b))
theorem r6_ret {w W : World} {b : By} {q : Sn} {ok : Bool} {tmps : Array Value} {x0 x1 x2 x3 y0 y1 y2 y3 : Value} (hp : tmps.getD 2 undef = .pointer (some ⟨w.heap.size, 0, none⟩)) (hu : tmps.getD 3 undef = .bool ok)
    (hq : W.heap[w.heap.size]? = some (.cells #[x0, x1, x2, x3] 25 (0, 0))) (hx : Ext w W) (hs : SnV (fun q => w.heap.size < q ∧ q < W.heap.size) W (.agg #[y0, y1, y2, y3]) q)
    (hok : (ok = true ∧ checkS q = 0 ∧ fileB q = b) ∨ (ok = false ∧ ∀ s, checkS s = 0 → fileB s ≠ b)) :
    bodyPost Tryz.prog Tryz.f73 (R6Post b w) .ret { tmps := tmps, defers := [] } ((((W.setCell ⟨w.heap.size, 0, none⟩ y0).setCell ⟨w.heap.size, 1, none⟩ y1).setCell ⟨w.heap.size, 2, none⟩ y2).setCell ⟨w.heap.size, 3, none⟩ y3) := by
  have hS := four_set2 hq y0 y1 y2 y3
  refine bodyPost_ret_by (results_cell_row_tmp rfl _ _ w.heap.size _ _ _ (Tryz.prog.underlying 25).get! hp hS.obj (by kernel_rfl) (by kernel_rfl) (by kernel_rfl)) rfl ⟨ext_frm hx hS.frm (fun q hq => by rw [hq]; exact Nat.le_refl _), q, y0, y1, y2, y3, ok, ?_, by rw [hu], hok⟩
  exact hs.keep fun x hx2 hl => ⟨⟨by omega, by rw [hS.size]; exact hl⟩, hS.frm.block x hl (by show ¬ x = _; omega)⟩
theorem frm_grown {w w' : World} {v : Value} (h : w.grownBy w' v.ownBlock) : Frm (fun q => v.ownBlock = some q) w w' := ⟨h.os, h.tape, h.output, h.size, fun k hk hn => h.block k hk fun e => hn e.symm⟩
theorem RSc.keep {G : Nat → Prop} {w w' : World} {g : Nat} {s : Sc} (h : RSc G w g s) (hk : ∀ q, (G q ∨ q = g) → q < w.heap.size → w'.heap[q]? = w.heap[q]?) : RSc G w' g s := by
  obtain ⟨a, n, c, h1, h2, h3, h4⟩ := h
  exact ⟨a, n, c, (hk g (.inr rfl) (Array.getElem?_eq_some_iff.1 h1).1).trans h1, h2.keep fun q hq hl => ⟨hq, hk q (.inl hq) hl⟩, h3, h4⟩
set_option maxRecDepth 100000 in
set_option maxHeartbeats 8000000 in
theorem R6Read_any {F : Nat → Prop} {w : World} {a : Option Addr} {n c : Nat} {b : By} (hb : ByF F w a n c b) (hn : n ≤ 1000000000) :
    Calls Tryz.prog 73 #[.slice a n c] w (R6Post b w) := by
  have HNB := hid (show n = b.length from hb.1)
  have HB := hid hb
  have hR := fun W (hW : Ext w W) => RRows_any (hb.below hW) hn
  have hbd := rowsB_bound b.length b (Nat.le_refl _)
  obtain ⟨rw_, hrw⟩ : ∃ r, r = rowsB b := ⟨_, rfl⟩
  rw [← hrw] at hR hbd
  have HR := hid hR
  have HRW := hid hrw
  have HBD := hid hbd
  obtain ⟨rows, rn⟩ := rw_
  clear hb hR hrw hbd
  go_enter Tryz.func73, Tryz.ntmps73
  go_wp2_with fail
  generalize hW0 : w.alloc (.cells #[.int .i64 0, .int .i64 0, .slice none 0 0, .slice none 0 0] 25) = W0
  have hx0 : Ext w W0 := by rw [← hW0]; exact ext_alloc _ _
  have hz0 : W0.heap.size = w.heap.size + 1 := by rw [← hW0]; simp
  have hq0 : W0.heap[w.heap.size]? = some (.cells #[.int .i64 0, .int .i64 0, .slice none 0 0, .slice none 0 0] 25 (0, 0)) := by rw [← hW0]; exact heap_alloc_new _ _
  have HX0 := hid hx0
  have HZ0 := hid hz0
  have HQ0 := hid hq0
  clear hW0 hx0 hz0 hq0
  refine Calls.mono (HR.out W0 HX0.out) ?_
  rintro e w2 ⟨ra, rn2, rc, rfl, hown, hx2⟩
  have hl1 : rows.length ≤ 1000000000 := by have h1 := HBD.out.1; have h2 := HBD.out.2.1; have h3 := HNB.out; exact Nat.le_trans h1 (Nat.le_trans h2 (by omega))
  have hbs := hown.bs (show rows.length ≤ 1000000000000 by omega)
  have HBS := hid hbs
  have HX2 := hid hx2
  have hrn := hbs.1
  have hq2 := (hx2.block w.heap.size (by have := HZ0.out; omega)).trans HQ0.out
  obtain ⟨⟨c0, c1, c2, c3⟩, ⟨f0, f1, f2, f3⟩, hlr⟩ := cells4 hq2
  have HQ2 := hid hq2
  have HX02 := hid (HX0.out.trans' hx2)
  clear hown hx2 hbs hq2
  cases rows with
  | nil =>
    have hr0 : rn2 = 0 := hrn
    subst hr0
    clear hrn hl1
    have HNO := hid (show ∀ s, checkS s = 0 → fileB s ≠ b from fun s hs hf => by
      have h1 := rowsB_file hs
      rw [hf, ← HRW.out] at h1
      have h2 := congrArg Prod.fst h1
      cases h2)
    go_wp2
    exact r6_ret (q := sn0) (ok := false) rfl rfl HQ2.out HX02.out (SnV.zero2 _ _) (.inr ⟨rfl, HNO.out⟩)
  | cons H tl =>
    have hr0 : 0 < rn2 := by rw [hrn, List.length_cons]; omega
    have hr0i : (0 : Int) < (rn2 : Int) := by omega
    have hrne : ((rn2 : Int) == 0) = false := by simp; omega
    obtain ⟨pb, po, rfl, hpl, hkl, ha, hn', hc', q, hby⟩ := HBS.out.at_ hr0
    have hby : ByF _ w2 ha hn' hc' H := hby
    rw [Nat.add_zero] at q
    have HBY := hid (hby.keep (w' := w2) (G := fun q => q < w2.heap.size) fun q hq hl => ⟨hl, rfl⟩)
    have hHl : H.length ≤ 65536 := HBD.out.2.2.1 H (List.mem_cons_self ..)
    have HHL := hid hHl
    have HRN := hid hrn
    have e3 := heap_alloc_new w2 (.cells #[.slice ha hn' hc', .int .i64 0, .int .i64 0] 150)
    have x3 := ext_alloc w2 (.cells #[.slice ha hn' hc', .int .i64 0, .int .i64 0] 150)
    have z3 : (w2.alloc (.cells #[.slice ha hn' hc', .int .i64 0, .int .i64 0] 150)).heap.size = w2.heap.size + 1 := World.size_alloc ..
    clear hby hHl hrn hr0 hl1
    go_wp2_with fail
    have e4 := heap_alloc_new (w2.alloc (.cells #[.slice ha hn' hc', .int .i64 0, .int .i64 0] 150)) (.cells #[.int .i64 0, .int .i64 0, .slice none 0 0, .slice none 0 0] 25)
    have x4 := ext_alloc (w2.alloc (.cells #[.slice ha hn' hc', .int .i64 0, .int .i64 0] 150)) (.cells #[.int .i64 0, .int .i64 0, .slice none 0 0, .slice none 0 0] 25)
    have z4 : ((w2.alloc (.cells #[.slice ha hn' hc', .int .i64 0, .int .i64 0] 150)).alloc (.cells #[.int .i64 0, .int .i64 0, .slice none 0 0, .slice none 0 0] 25)).heap.size = w2.heap.size + 2 := by rw [World.size_alloc, z3]
    rw [z3] at e4
    have e34 := (x4.block w2.heap.size (by rw [z3]; omega)).trans e3
    have x24 := x3.trans' x4
    generalize (w2.alloc (.cells #[.slice ha hn' hc', .int .i64 0, .int .i64 0] 150)).alloc (.cells #[.int .i64 0, .int .i64 0, .slice none 0 0, .slice none 0 0] 25) = w4 at *
    obtain ⟨b7, hb7⟩ : ∃ b7, b7 = w2.heap.size + 1 := ⟨_, rfl⟩
    obtain ⟨b6, hb6⟩ : ∃ b6, b6 = w2.heap.size := ⟨_, rfl⟩
    rw [← hb7] at e4 ⊢
    rw [← hb6] at e34 ⊢
    have HB67 := hid (show b6 = w2.heap.size ∧ b7 = w2.heap.size + 1 ∧ w4.heap.size = w2.heap.size + 2 from ⟨hb6, hb7, z4⟩)
    have HX24 := hid x24
    have HX04 := hid (HX02.out.trans' x24)
    have hlr4 : w.heap.size < b6 := by rw [hb6]; exact hlr
    have HLR := hid hlr4
    have hsc4 : RSc (fun q => q < b6) w4 b6 ⟨H, 0, 0⟩ := ⟨ha, hn', hc', e34, (HBY.out.keep (w' := w4) (G := fun q => q < b6) fun q hq hl => ⟨by rw [hb6]; exact hq, x24.block q hl⟩), Nat.zero_le _, Nat.lt_irrefl _⟩
    have hcon := RScan_any hsc4 (by show H.length ≤ _; have := HHL.out; omega)
    obtain ⟨⟨n1, sc1⟩, hn1⟩ : ∃ r, r = (⟨H, 0, 0⟩ : Sc).num := ⟨_, rfl⟩
    have hbd1 := Sc.num_bound (⟨H, 0, 0⟩ : Sc) (Nat.zero_le _)
    rw [← hn1] at hcon hbd1
    dsimp only at hbd1
    have HN1 := hid hn1
    have HCON := hid hcon
    have HE4 := hid e4
    have HD1 := hid hbd1
    have hn1l : n1 < 9223372036854775808 := hbd1.1
    clear hsc4 hcon hbd1 e3 x3 z3 e34 x4 e4 x24 z4 hn1 hb6 hb7 hlr4 c0 c1 c2 c3 f0 f1 f2 f3 hlr q
    refine Calls.mono HCON.out ?_
    rintro e w5 ⟨rfl, hs5, hf5⟩
    dsimp only at hs5
    have he5 := (hf5.block b7 (Array.getElem?_eq_some_iff.1 HE4.out).1 (by show ¬ b7 = b6; have := HB67.out; omega)).trans HE4.out
    obtain ⟨⟨c0, c1, c2, c3⟩, ⟨f0, f1, f2, f3⟩, hl5⟩ := cells4 he5
    have hS5 := (SetG.start he5).step 0 (.int .i64 (n1 : Int))
    have HS5 := hid hS5
    have HSC5 := hid hs5
    have HF5 := hid hf5
    clear hS5 hs5 hf5 he5 HCON HE4
    dsimp only
    go_wp2_with fail
    generalize w5.setCell ⟨b7, 0, none⟩ (.int .i64 (n1 : Int)) = w6 at *
    have hsc6 : RSc (fun q => q < b6) w6 b6 sc1 := HSC5.out.keep fun q hq hl => HS5.out.frm.block q hl (by show ¬ q = b7; have := HB67.out; rcases hq with h | h <;> omega)
    have hb1 : sc1.b = H := HD1.out.2.1
    have hcon := RScan_any hsc6 (by rw [hb1]; have := HHL.out; omega)
    obtain ⟨⟨n2, sc2⟩, hn2⟩ : ∃ r, r = sc1.num := ⟨_, rfl⟩
    have hbd2 := Sc.num_bound sc1 (by rw [hb1]; exact HD1.out.2.2.1)
    rw [← hn2] at hcon hbd2
    dsimp only at hbd2
    have HN2 := hid hn2
    have HCON := hid hcon
    have HD2 := hid hbd2
    have HB1 := hid hb1
    have hn2l : n2 < 9223372036854775808 := hbd2.1
    have HF6 := hid ((HF5.out.more (E := fun q => q = b6 ∨ q = b7) fun q h => .inl h).trans (HS5.out.frm.more (E := fun q => q = b6 ∨ q = b7) fun q h => .inr h) fun q h => .inl h)
    clear hsc6 hcon hbd2 hn2 hb1 c0 c1 c2 c3 f0 f1 f2 f3 hl5 HSC5 HF5
    refine Calls.mono HCON.out ?_
    rintro e w7 ⟨rfl, hs7, hf7⟩
    dsimp only at hs7
    have he7 := (hf7.block b7 (Array.getElem?_eq_some_iff.1 HS5.out.obj).1 (by show ¬ b7 = b6; have := HB67.out; omega)).trans HS5.out.obj
    obtain ⟨⟨c0, c1, c2, c3⟩, ⟨f0, f1, f2, f3⟩, hl7⟩ := cells4 he7
    have hS7 := (SetG.start he7).step 1 (.int .i64 (n2 : Int))
    have HS7 := hid hS7
    have HSC7 := hid hs7
    have HF7 := hid hf7
    clear hS7 hs7 hf7 he7 HCON HS5
    dsimp only
    go_wp2_with fail
    generalize w7.setCell ⟨b7, 1, none⟩ (.int .i64 (n2 : Int)) = w8 at *
    have hsc8 : RSc (fun q => q < b6) w8 b6 sc2 := HSC7.out.keep fun q hq hl => HS7.out.frm.block q hl (by show ¬ q = b7; have := HB67.out; rcases hq with h | h <;> omega)
    have hb2 : sc2.b = H := HD2.out.2.1.trans HB1.out
    have hcon := RScan_any hsc8 (by rw [hb2]; have := HHL.out; omega)
    obtain ⟨⟨n3, sc3⟩, hn3⟩ : ∃ r, r = sc2.num := ⟨_, rfl⟩
    have hbd3 := Sc.num_bound sc2 (by rw [hb2, ← HB1.out]; exact HD2.out.2.2.1)
    rw [← hn3] at hcon hbd3
    dsimp only at hbd3
    have HN3 := hid hn3
    have HCON := hid hcon
    have HD3 := hid hbd3
    have HB2 := hid hb2
    have hn3l : n3 < 9223372036854775808 := hbd3.1
    have HF8 := hid ((HF6.out.trans (HF7.out.more (E := fun q => q = b6 ∨ q = b7) fun q h => .inl h) fun q h => .inl h).trans (HS7.out.frm.more (E := fun q => q = b6 ∨ q = b7) fun q h => .inr h) fun q h => .inl h)
    clear hsc8 hcon hbd3 hn3 hb2 c0 c1 c2 c3 f0 f1 f2 f3 hl7 HSC7 HF7 HF6
    refine Calls.mono HCON.out ?_
    rintro e w9 ⟨rfl, hs9, hf9⟩
    dsimp only at hs9
    have he9 := (hf9.block b7 (Array.getElem?_eq_some_iff.1 HS7.out.obj).1 (by show ¬ b7 = b6; have := HB67.out; omega)).trans HS7.out.obj
    have HE9 := hid (show w9.heap[b7]? = some (.cells #[.int .i64 (n1 : Int), .int .i64 (n2 : Int), .slice none 0 0, .slice none 0 0] 25 (0, 0)) from he9)
    have HSC9 := hid hs9
    have HF9 := hid (HF8.out.trans (hf9.more (E := fun q => q = b6 ∨ q = b7) fun q h => .inl h) fun q h => .inl h)
    have HB3 := hid (HD3.out.2.1.trans HB2.out)
    obtain ⟨nv, hnv⟩ : ∃ nv, nv = min n3 8 := ⟨_, rfl⟩
    have hnv8 : nv ≤ 8 := by omega
    have HNV := hid hnv
    have HQ := hid (show refQ H tl = ⟨(n1 : Int), (n2 : Int), (numsG nv sc3).1, tl.flatten⟩ by
      unfold refQ
      rw [← HN1.out]
      dsimp only
      rw [← HN2.out]
      dsimp only
      rw [← HN3.out, HNV.out])
    clear hs9 hf9 he9 HCON HS7 HF8 hnv
    dsimp only
    go_wp2
    go_loopw [9] (fun z wr => ∃ (k : Nat) (va : Option Addr) (vn vc : Nat), k ≤ nv ∧ z = .int .i64 (k : Int) ∧ Hid (wr.heap[b7]? = some (.cells #[.int .i64 (n1 : Int), .int .i64 (n2 : Int), .slice va vn vc, .slice none 0 0] 25 (0, 0))) ∧
        Hid (wr.ownsRow w4.heap.size 3 1 (.slice va vn vc) vn ((numsG k sc3).1.map (Value.int .i64))) ∧ Hid (RSc (fun q => q < b6) wr b6 (numsG k sc3).2) ∧ Hid ((numsG k sc3).2.b = H ∧ (numsG k sc3).2.at_ ≤ H.length ∧ ∀ x ∈ (numsG k sc3).1, In64 x) ∧ Hid (Frm (fun q => q = b6 ∨ q = b7) w4 wr)) (fun z _ => 8 - (intOf z).toNat)
    case atStart => exact ⟨0, none, 0, 0, Nat.zero_le _, rfl, HE9.out, hid (World.ownsRow_nil _ _ _ _), HSC9.out, hid ⟨HB3.out, by have h := HD3.out.2.2.1; rw [HB2.out] at h; exact h, fun x hx => by cases hx⟩, HF9.out⟩
    obtain ⟨k, va, vn, vc, hk, rfl, HE, HO, HSC, HI, HF⟩ := hrel
    have hvn : k = vn := by have h1 := HO.out.1; rw [List.length_map, numsG_len] at h1; omega
    subst hvn
    by_cases hlt : k < nv
    · have hk3 : (k : Int) < (n3 : Int) := by have := HNV.out; omega
      have hk8 : (k : Int) < 8 := by omega
      obtain ⟨c, hc⟩ : ∃ c, c = (numsG k sc3).2 := ⟨_, rfl⟩
      have hcon := fun (W : World) (hW : Ext wr W) => RScan_any (HSC.out.keep (w' := W) fun q hq hl => hW.block q hl) (by rw [HI.out.1]; have := HHL.out; omega)
      have hbd := Sc.num_bound (numsG k sc3).2 (by rw [HI.out.1]; exact HI.out.2.1)
      rw [← hc] at hcon hbd
      obtain ⟨⟨x, c'⟩, hx⟩ : ∃ r, r = c.num := ⟨_, rfl⟩
      rw [← hx] at hcon hbd
      dsimp only at hbd
      have HST := hid (show numsG (k + 1) sc3 = ((numsG k sc3).1 ++ [(x : Int)], c') by
        show ((numsG k sc3).1 ++ [((numsG k sc3).2.num.1 : Int)], (numsG k sc3).2.num.2) = _
        rw [← hc, ← hx])
      have HCB := hid (show c.b = H by rw [hc]; exact HI.out.1)
      have HCON := hid hcon
      have HBD := hid hbd
      have hxl : x < 9223372036854775808 := hbd.1
      have HLT := hid hlt
      clear hcon hbd hc hx hlt
      go_wp2
      have y0 : True := trivial
      refine wp_region_held_drew (S := fun _ => True) (by kernel_rfl) y0 (fun hH => ?_)
      obtain ⟨wd, hwd⟩ : ∃ wd, wd = wr.drew := ⟨_, rfl⟩
      have hxd : Ext wr wd := by rw [hwd]; exact ext_drew wr
      have HXD := hid hxd
      rw [← hwd]
      clear hH hwd hxd
      refine hr_ 0 (.pointer (some ⟨b7, 2, none⟩)) rfl y0 (fun W hW => ?_) ?_
      · (clear hW; go_simp)
      try simp only [Act.put, sA_, s0_, sS_]
      refine hr_ 2 (.pointer (some ⟨b6, 0, none⟩)) rfl y0 (fun W hW => ?_) ?_
      · (clear hW; go_simp)
      try simp only [Act.put, sA_, s0_, sS_]
      refine wpAnyH_ready (rs := [1, 3]) (by kernel_rfl) (by simp) ?_
      refine held_cons2 (i := 1) (j := 3) rfl rfl (fun K hK => ?_) (fun K hK => ?_)
      · skip
        have k2 := (cells4 ((HXD.out.block b7 (Array.getElem?_eq_some_iff.1 HE.out).1).trans HE.out)).1.2.2.1
        go_simp
        have y1 := y0
        clear k2
        refine hK.out _ _ y1 (fun hH => ?_)
        clear hK K y0 hH
        have y0 := y1
        clear y1
        try simp only [Act.put, sA_, s0_, sS_]
        refine hc_ 3 rfl (fun K hK => ?_)
        go_simp
        go_at_call 104
        refine Calls.mono (HCON.out _ HXD.out) ?_
        rintro e wa ⟨rfl, hsa, hfa⟩
        dsimp only at hsa
        have HSA := hid hsa
        have HFA := hid ((HF.out.then_ext HXD.out).trans (hfa.more (E := fun q => q = b6 ∨ q = b7) fun q h => .inl h) fun q h => .inl h)
        have hea := (hfa.block b7 (Array.getElem?_eq_some_iff.1 ((HXD.out.block b7 (Array.getElem?_eq_some_iff.1 HE.out).1).trans HE.out)).1 (by show ¬ b7 = b6; have := HB67.out; omega)).trans ((HXD.out.block b7 (Array.getElem?_eq_some_iff.1 HE.out).1).trans HE.out)
        have HEA := hid hea
        have HOA := hid (own_keep HO.out (w' := wa) fun q hq => (hfa.block q (Nat.lt_of_lt_of_le (own_cells HO.out hq).1 (HXD.out).size) (by show ¬ q = b6; have h1 := (HO.out.lt q hq).1; have := HB67.out; omega)).trans ((HXD.out).block q (own_cells HO.out hq).1))
        clear hsa hfa hea
        dsimp only
        have y1 := y0
        go_wp2_with fail
        refine hK.out _ _ y1 (fun hH => ?_)
        clear hK K y0 hH
        have y0 := y1
        clear y1
        try simp only [Act.put, sA_, s0_, sS_]
        refine hc_ 4 rfl (fun K hK => ?_)
        go_simp
        have y1 := y0
        refine hK.out _ _ y1 (fun hH => ?_)
        clear hK K y0 hH
        have y0 := y1
        clear y1
        try simp only [Act.put, sA_, s0_, sS_]
        have x2 := ext_alloc wa (.cells #[.int .i64 (x : Int)] 3)
        have HNR := hid (rnews_row wa [.int .i64 (x : Int)] 1 1 3 rfl)
        have HOB := hid (own_keep HOA.out (w' := wa.alloc (.cells #[.int .i64 (x : Int)] 3)) fun q hq => x2.block q (own_cells HOA.out hq).1)
        have HSB := hid (HSA.out.keep (w' := wa.alloc (.cells #[.int .i64 (x : Int)] 3)) fun q hq hl => x2.block q hl)
        have HEB := hid ((x2.block b7 (Array.getElem?_eq_some_iff.1 HEA.out).1).trans HEA.out)
        have HFB := hid (HFA.out.then_ext x2)
        clear x2
        refine hc_ 5 rfl (fun K hK => ?_)
        rw [if_pos (by rfl)]
        refine wp_appRow (.tmp 45) (.tmp 48) 22 rfl w4.heap.size 3 _ 1 8 Tryz.underlying22 info_int rfl (by decide) (.slice va k vc) k _ rfl HOB.out ⟨wa.heap.size, 0, none⟩ 1 1 _ rfl HNR.out (by intro u hu; simp at hu; rw [hu]; rfl) (by unfold maxLen; omega) (by omega) HFB.out.size ?_
        intro v6 w6 hrow hgr _
        obtain ⟨a6, c6, hv6⟩ := own_slice2 hrow
        subst hv6
        have hnb : ∀ q, q < w4.heap.size → w6.heap[q]? = (wa.alloc (.cells #[.int .i64 (x : Int)] 3)).heap[q]? := fun q hq => hgr.block q (Nat.lt_of_lt_of_le hq HFB.out.size) (fun e => by have := (HOB.out.lt q e.symm).1; omega)
        have HE6 := hid ((hnb b7 (by have := HB67.out; omega)).trans HEB.out)
        have HS6 := hid (HSB.out.keep (w' := w6) fun q hq hl => hnb q (by have := HB67.out; rcases hq with h | h <;> omega))
        have HF6 := hid (HFB.out.trans (frm_grown hgr) fun q hq => .inr (HOB.out.lt q hq).1)
        have HO6 := hid hrow
        have y1 := y0
        clear hrow hgr hnb
        refine hK.out _ _ y1 (fun hH => ?_)
        clear hK K y0 hH
        have y0 := y1
        clear y1
        try simp only [Act.put, sA_, s0_, sS_]
        refine hr_ 6 (.pointer (some ⟨b7, 2, none⟩)) rfl y0 (fun W hW => ?_) ?_
        · (clear hW; go_simp)
        try simp only [Act.put, sA_, s0_, sS_]
        refine hc_ 7 rfl (fun K hK => ?_)
        obtain ⟨⟨d0, d1, d2, d3⟩, ⟨f0, f1, f2, f3⟩, hl6⟩ := cells4 HE6.out
        have hS := (SetG.start HE6.out).step 2 (.slice a6 (k + 1) c6)
        go_simp
        generalize w6.setCell ⟨b7, 2, none⟩ (.slice a6 (k + 1) c6) = w7 at *
        have HS := hid hS
        have y1 := y0
        clear hS d0 d1 d2 d3 f0 f1 f2 f3 hl6
        refine hK.out _ _ y1 (fun hH => ?_)
        clear hK K y0 hH
        have y0 := y1
        clear y1
        try simp only [Act.put, sA_, s0_, sS_]
        refine wpAnyH_done (by kernel_rfl) ?_ _
        clear y0
        go_wp2
        go_roundw
        case rel => exact ⟨k + 1, a6, k + 1, c6, by have := HLT.out; omega, by go_num, hid HS.out.obj, hid (by
          rw [HST.out, List.map_append]
          exact own_keep HO6.out fun q hq => HS.out.frm.block q (HO6.out.lt q hq).2 (by show ¬ q = b7; have h1 := (HO6.out.lt q hq).1; have := HB67.out; omega)), hid (by
          rw [HST.out]
          exact HS6.out.keep fun q hq hl => HS.out.frm.block q hl (by show ¬ q = b7; have := HB67.out; rcases hq with h | h <;> omega)), hid (by
          rw [HST.out]
          refine ⟨HBD.out.2.1.trans HCB.out, by have h := HBD.out.2.2.1; rw [HCB.out] at h; exact h, fun z hz => ?_⟩
          rcases List.mem_append.1 hz with hz | hz
          · exact HI.out.2.2 z hz
          rw [List.mem_singleton] at hz; rw [hz]; exact ⟨by omega, by omega⟩), (HF6.out.trans (HS.out.frm.more (E := fun q => q = b6 ∨ q = b7) fun q h => .inr h) fun q h => .inl h)⟩
        case measure => simp [intOf]; omega
      skip
      go_simp
      go_at_call 104
      refine Calls.mono (HCON.out _ HXD.out) ?_
      rintro e wa ⟨rfl, hsa, hfa⟩
      dsimp only at hsa
      have HSA := hid hsa
      have HFA := hid ((HF.out.then_ext HXD.out).trans (hfa.more (E := fun q => q = b6 ∨ q = b7) fun q h => .inl h) fun q h => .inl h)
      have hea := (hfa.block b7 (Array.getElem?_eq_some_iff.1 ((HXD.out.block b7 (Array.getElem?_eq_some_iff.1 HE.out).1).trans HE.out)).1 (by show ¬ b7 = b6; have := HB67.out; omega)).trans ((HXD.out.block b7 (Array.getElem?_eq_some_iff.1 HE.out).1).trans HE.out)
      have HEA := hid hea
      have HOA := hid (own_keep HO.out (w' := wa) fun q hq => (hfa.block q (Nat.lt_of_lt_of_le (own_cells HO.out hq).1 (HXD.out).size) (by show ¬ q = b6; have h1 := (HO.out.lt q hq).1; have := HB67.out; omega)).trans ((HXD.out).block q (own_cells HO.out hq).1))
      clear hsa hfa hea
      dsimp only
      have y1 := y0
      go_wp2_with fail
      refine hK.out _ _ y1 (fun hH => ?_)
      clear hK K y0 hH
      have y0 := y1
      clear y1
      try simp only [Act.put, sA_, s0_, sS_]
      refine wpAnyH_ready (rs := [1, 4]) (by kernel_rfl) (by simp) ?_
      refine held_cons2 (i := 1) (j := 4) rfl rfl (fun K hK => ?_) (fun K hK => ?_)
      · skip
        have k2 := (cells4 HEA.out).1.2.2.1
        go_simp
        have y1 := y0
        clear k2
        refine hK.out _ _ y1 (fun hH => ?_)
        clear hK K y0 hH
        have y0 := y1
        clear y1
        try simp only [Act.put, sA_, s0_, sS_]
        refine hc_ 4 rfl (fun K hK => ?_)
        go_simp
        have y1 := y0
        refine hK.out _ _ y1 (fun hH => ?_)
        clear hK K y0 hH
        have y0 := y1
        clear y1
        try simp only [Act.put, sA_, s0_, sS_]
        have x2 := ext_alloc wa (.cells #[.int .i64 (x : Int)] 3)
        have HNR := hid (rnews_row wa [.int .i64 (x : Int)] 1 1 3 rfl)
        have HOB := hid (own_keep HOA.out (w' := wa.alloc (.cells #[.int .i64 (x : Int)] 3)) fun q hq => x2.block q (own_cells HOA.out hq).1)
        have HSB := hid (HSA.out.keep (w' := wa.alloc (.cells #[.int .i64 (x : Int)] 3)) fun q hq hl => x2.block q hl)
        have HEB := hid ((x2.block b7 (Array.getElem?_eq_some_iff.1 HEA.out).1).trans HEA.out)
        have HFB := hid (HFA.out.then_ext x2)
        clear x2
        refine hc_ 5 rfl (fun K hK => ?_)
        rw [if_pos (by rfl)]
        refine wp_appRow (.tmp 45) (.tmp 48) 22 rfl w4.heap.size 3 _ 1 8 Tryz.underlying22 info_int rfl (by decide) (.slice va k vc) k _ rfl HOB.out ⟨wa.heap.size, 0, none⟩ 1 1 _ rfl HNR.out (by intro u hu; simp at hu; rw [hu]; rfl) (by unfold maxLen; omega) (by omega) HFB.out.size ?_
        intro v6 w6 hrow hgr _
        obtain ⟨a6, c6, hv6⟩ := own_slice2 hrow
        subst hv6
        have hnb : ∀ q, q < w4.heap.size → w6.heap[q]? = (wa.alloc (.cells #[.int .i64 (x : Int)] 3)).heap[q]? := fun q hq => hgr.block q (Nat.lt_of_lt_of_le hq HFB.out.size) (fun e => by have := (HOB.out.lt q e.symm).1; omega)
        have HE6 := hid ((hnb b7 (by have := HB67.out; omega)).trans HEB.out)
        have HS6 := hid (HSB.out.keep (w' := w6) fun q hq hl => hnb q (by have := HB67.out; rcases hq with h | h <;> omega))
        have HF6 := hid (HFB.out.trans (frm_grown hgr) fun q hq => .inr (HOB.out.lt q hq).1)
        have HO6 := hid hrow
        have y1 := y0
        clear hrow hgr hnb
        refine hK.out _ _ y1 (fun hH => ?_)
        clear hK K y0 hH
        have y0 := y1
        clear y1
        try simp only [Act.put, sA_, s0_, sS_]
        refine hr_ 6 (.pointer (some ⟨b7, 2, none⟩)) rfl y0 (fun W hW => ?_) ?_
        · (clear hW; go_simp)
        try simp only [Act.put, sA_, s0_, sS_]
        refine hc_ 7 rfl (fun K hK => ?_)
        obtain ⟨⟨d0, d1, d2, d3⟩, ⟨f0, f1, f2, f3⟩, hl6⟩ := cells4 HE6.out
        have hS := (SetG.start HE6.out).step 2 (.slice a6 (k + 1) c6)
        go_simp
        generalize w6.setCell ⟨b7, 2, none⟩ (.slice a6 (k + 1) c6) = w7 at *
        have HS := hid hS
        have y1 := y0
        clear hS d0 d1 d2 d3 f0 f1 f2 f3 hl6
        refine hK.out _ _ y1 (fun hH => ?_)
        clear hK K y0 hH
        have y0 := y1
        clear y1
        try simp only [Act.put, sA_, s0_, sS_]
        refine wpAnyH_done (by kernel_rfl) ?_ _
        clear y0
        go_wp2
        go_roundw
        case rel => exact ⟨k + 1, a6, k + 1, c6, by have := HLT.out; omega, by go_num, hid HS.out.obj, hid (by
          rw [HST.out, List.map_append]
          exact own_keep HO6.out fun q hq => HS.out.frm.block q (HO6.out.lt q hq).2 (by show ¬ q = b7; have h1 := (HO6.out.lt q hq).1; have := HB67.out; omega)), hid (by
          rw [HST.out]
          exact HS6.out.keep fun q hq hl => HS.out.frm.block q hl (by show ¬ q = b7; have := HB67.out; rcases hq with h | h <;> omega)), hid (by
          rw [HST.out]
          refine ⟨HBD.out.2.1.trans HCB.out, by have h := HBD.out.2.2.1; rw [HCB.out] at h; exact h, fun z hz => ?_⟩
          rcases List.mem_append.1 hz with hz | hz
          · exact HI.out.2.2 z hz
          rw [List.mem_singleton] at hz; rw [hz]; exact ⟨by omega, by omega⟩), (HF6.out.trans (HS.out.frm.more (E := fun q => q = b6 ∨ q = b7) fun q h => .inr h) fun q h => .inl h)⟩
        case measure => simp [intOf]; omega
      skip
      go_simp
      have y1 := y0
      refine hK.out _ _ y1 (fun hH => ?_)
      clear hK K y0 hH
      have y0 := y1
      clear y1
      try simp only [Act.put, sA_, s0_, sS_]
      refine hc_ 1 rfl (fun K hK => ?_)
      have k2 := (cells4 ((ext_alloc wa (.cells #[.int .i64 (x : Int)] 3)).block b7 (Array.getElem?_eq_some_iff.1 HEA.out).1 |>.trans HEA.out)).1.2.2.1
      go_simp
      have y1 := y0
      clear k2
      refine hK.out _ _ y1 (fun hH => ?_)
      clear hK K y0 hH
      have y0 := y1
      clear y1
      try simp only [Act.put, sA_, s0_, sS_]
      have x2 := ext_alloc wa (.cells #[.int .i64 (x : Int)] 3)
      have HNR := hid (rnews_row wa [.int .i64 (x : Int)] 1 1 3 rfl)
      have HOB := hid (own_keep HOA.out (w' := wa.alloc (.cells #[.int .i64 (x : Int)] 3)) fun q hq => x2.block q (own_cells HOA.out hq).1)
      have HSB := hid (HSA.out.keep (w' := wa.alloc (.cells #[.int .i64 (x : Int)] 3)) fun q hq hl => x2.block q hl)
      have HEB := hid ((x2.block b7 (Array.getElem?_eq_some_iff.1 HEA.out).1).trans HEA.out)
      have HFB := hid (HFA.out.then_ext x2)
      clear x2
      refine hc_ 5 rfl (fun K hK => ?_)
      rw [if_pos (by rfl)]
      refine wp_appRow (.tmp 45) (.tmp 48) 22 rfl w4.heap.size 3 _ 1 8 Tryz.underlying22 info_int rfl (by decide) (.slice va k vc) k _ rfl HOB.out ⟨wa.heap.size, 0, none⟩ 1 1 _ rfl HNR.out (by intro u hu; simp at hu; rw [hu]; rfl) (by unfold maxLen; omega) (by omega) HFB.out.size ?_
      intro v6 w6 hrow hgr _
      obtain ⟨a6, c6, hv6⟩ := own_slice2 hrow
      subst hv6
      have hnb : ∀ q, q < w4.heap.size → w6.heap[q]? = (wa.alloc (.cells #[.int .i64 (x : Int)] 3)).heap[q]? := fun q hq => hgr.block q (Nat.lt_of_lt_of_le hq HFB.out.size) (fun e => by have := (HOB.out.lt q e.symm).1; omega)
      have HE6 := hid ((hnb b7 (by have := HB67.out; omega)).trans HEB.out)
      have HS6 := hid (HSB.out.keep (w' := w6) fun q hq hl => hnb q (by have := HB67.out; rcases hq with h | h <;> omega))
      have HF6 := hid (HFB.out.trans (frm_grown hgr) fun q hq => .inr (HOB.out.lt q hq).1)
      have HO6 := hid hrow
      have y1 := y0
      clear hrow hgr hnb
      refine hK.out _ _ y1 (fun hH => ?_)
      clear hK K y0 hH
      have y0 := y1
      clear y1
      try simp only [Act.put, sA_, s0_, sS_]
      refine hr_ 6 (.pointer (some ⟨b7, 2, none⟩)) rfl y0 (fun W hW => ?_) ?_
      · (clear hW; go_simp)
      try simp only [Act.put, sA_, s0_, sS_]
      refine hc_ 7 rfl (fun K hK => ?_)
      obtain ⟨⟨d0, d1, d2, d3⟩, ⟨f0, f1, f2, f3⟩, hl6⟩ := cells4 HE6.out
      have hS := (SetG.start HE6.out).step 2 (.slice a6 (k + 1) c6)
      go_simp
      generalize w6.setCell ⟨b7, 2, none⟩ (.slice a6 (k + 1) c6) = w7 at *
      have HS := hid hS
      have y1 := y0
      clear hS d0 d1 d2 d3 f0 f1 f2 f3 hl6
      refine hK.out _ _ y1 (fun hH => ?_)
      clear hK K y0 hH
      have y0 := y1
      clear y1
      try simp only [Act.put, sA_, s0_, sS_]
      refine wpAnyH_done (by kernel_rfl) ?_ _
      clear y0
      go_wp2
      go_roundw
      case rel => exact ⟨k + 1, a6, k + 1, c6, by have := HLT.out; omega, by go_num, hid HS.out.obj, hid (by
        rw [HST.out, List.map_append]
        exact own_keep HO6.out fun q hq => HS.out.frm.block q (HO6.out.lt q hq).2 (by show ¬ q = b7; have h1 := (HO6.out.lt q hq).1; have := HB67.out; omega)), hid (by
        rw [HST.out]
        exact HS6.out.keep fun q hq hl => HS.out.frm.block q hl (by show ¬ q = b7; have := HB67.out; rcases hq with h | h <;> omega)), hid (by
        rw [HST.out]
        refine ⟨HBD.out.2.1.trans HCB.out, by have h := HBD.out.2.2.1; rw [HCB.out] at h; exact h, fun z hz => ?_⟩
        rcases List.mem_append.1 hz with hz | hz
        · exact HI.out.2.2 z hz
        rw [List.mem_singleton] at hz; rw [hz]; exact ⟨by omega, by omega⟩), (HF6.out.trans (HS.out.frm.more (E := fun q => q = b6 ∨ q = b7) fun q h => .inr h) fun q h => .inl h)⟩
      case measure => simp [intOf]; omega
    have hkn : k = nv := by omega
    by_cases hn8 : n3 ≤ 8
    · skip
      have hk3 : ¬ (k : Int) < (n3 : Int) := by have := HNV.out; omega
      clear hn8
      subst hkn
      have HVS := hid ((show OwnI w4.heap.size wr (.slice va k vc) (numsG k sc3).1 by unfold OwnI; rw [numsG_len]; exact HO.out).isf (by rw [numsG_len]; omega) HI.out.2.2)
      have HVB := hid (fun q (hq : (Value.slice va k vc).ownBlock = some q) => HO.out.lt q hq)
      obtain ⟨ta, tn, tc, hsl, hsl2, htl⟩ := bs_tail HBS.out
      have htn := htl.1
      have HTN := hid htn
      have htn9 : tn ≤ 1000000000 := by have h1 := HBD.out.1; have h2 := HBD.out.2.1; have h3 := HNB.out; rw [List.length_cons] at h1; omega
      have HTL := hid (htl.keep (w' := wr) (G := fun q => q < b6) fun q hq hl => ⟨by rw [HB67.out.1]; exact hl, (HF.out.block q (Nat.lt_of_lt_of_le hl HX24.out.size) (by show ¬ (q = b6 ∨ q = b7); have := HB67.out; omega)).trans (HX24.out.block q hl)⟩)
      have HXW := hid (ext_frm HX04.out HF.out fun q hq => by have h1 := HB67.out; have h2 := HLR.out; rcases hq with h | h <;> omega)
      have HRES := hid ((HF.out.block w.heap.size (Nat.lt_of_lt_of_le (Array.getElem?_eq_some_iff.1 HQ2.out).1 HX24.out.size) (by show ¬ (_ = b6 ∨ _ = b7); have h1 := HB67.out; have h2 := HLR.out; omega)).trans ((HX24.out.block w.heap.size (Array.getElem?_eq_some_iff.1 HQ2.out).1).trans HQ2.out))
      have HZ10 := hid (show w4.heap.size ≤ wr.heap.size from HF.out.size)
      clear htl htn hlt
      generalize wr = w10 at *
      go_wp2
      go_loopw [11, 54] (fun _ z wl => ∃ (j xn xc : Nat) (xa : Option Addr), j ≤ tn ∧ z = .int .i64 (j : Int) ∧ Hid (wl.heap[b7]? = some (.cells #[.int .i64 (n1 : Int), .int .i64 (n2 : Int), .slice va k vc, .slice xa xn xc] 25 (0, 0))) ∧
          Hid (wl.ownsRow w10.heap.size 5 1 (.slice xa xn xc) xn (u8s (tl.take j).flatten)) ∧ Hid (Frm (fun q => q = b7) w10 wl)) (fun _ z _ => tn - (intOf z).toNat)
      case atStart => exact ⟨0, 0, 0, none, Nat.zero_le _, rfl, HE.out, hid (World.ownsRow_nil _ _ _ _), Frm.refl _ _⟩
      obtain ⟨j, xn, xc, xa, hj, rfl, HE2, HO2, HF2⟩ := hrel
      have hxn : xn = (tl.take j).flatten.length := by have h1 := HO2.out.1; unfold u8s at h1; rw [List.length_map] at h1; omega
      have hxl : xn ≤ 1000000000 := by have h0 := flat_len_take tl j; have h1 := HBD.out.2.2.2; have h2 := HNB.out; rw [List.flatten_cons, List.length_append] at h1; omega
      by_cases hlt : j < tn
      · obtain ⟨pb2, po2, rfl, hbl2, hkl2, a', n', c', q2, hby⟩ := (HTL.out.keep (w' := wr) (G := fun q => q < b6) fun q hq hl => ⟨hq, HF2.out.block q hl (by show ¬ q = b7; have := HB67.out; omega)⟩).at_ hlt
        have hft := flat_take2 tl j hkl2
        have hfl := flat_len_take tl (j + 1)
        generalize tl[j] = p at *
        have hn' := hby.1
        have hn'l : n' + xn ≤ 1000000000 := by rw [hft, List.length_append] at hfl; have h1 := HBD.out.2.2.2; have h2 := HNB.out; rw [List.flatten_cons, List.length_append] at h1; omega
        have hn'l2 : n' ≤ 1000000000 := by omega
        have HFT := hid hft
        have hki : (j : Int) < (tn : Int) := by omega
        have hki0 : (0 : Int) ≤ (j : Int) := by omega
        have hac : a' = none → c' = 0 := hby.2.2.2.1
        have HRAW := hid hby.raw
        obtain ⟨⟨d0, d1, d2, d3⟩, ⟨g0, g1, g2, g3⟩, hlb⟩ := cells4 HE2.out
        have HLT := hid hlt
        clear hby hft hfl hn' hxn hlt
        go_wp2_with (at_builtin; refine wpList_append_row rfl (.tmp 59) (.tmp 60) _ rfl w10.heap.size 5 (.int .u8 0) 1 1 Tryz.underlying23 info_u8 rfl (by decide) (.slice xa xn xc) xn _ rfl HO2.out a' n' c' (u8s p) rfl hac HRAW.out (u8s_mem p) (by unfold maxLen; omega) (by omega) HF2.out.size ?_; intro v5 w5 hown5 hg5; obtain ⟨a5, c5, rfl⟩ := own_slice2 hown5; have he5 := (hg5.block b7 (Array.getElem?_eq_some_iff.1 HE2.out).1 (fun e => by have h1 := (HO2.out.lt b7 e.symm).1; have h2 := HB67.out; have h3 := HZ10.out; omega)).trans HE2.out; obtain ⟨⟨h50, h51, h52, h53⟩, ⟨k50, k51, k52, k53⟩, hl5⟩ := cells4 he5; have HS := hid ((SetG.start he5).step 3 (.slice a5 (xn + n') c5)); have HF5 := hid (HF2.out.trans (frm_grown hg5) fun q hq => .inr (HO2.out.lt q hq).1); have HO5 := hid hown5; clear hown5 hg5 he5)
        go_roundw
        case rel => exact ⟨j + 1, xn + n', c5, a5, by have := HLT.out; omega, by go_num, hid HS.out.obj, hid (by
          have h5 := HO5.out
          rw [HFT.out]
          unfold u8s at h5 ⊢
          rw [List.map_append]
          exact own_keep h5 fun q hq => HS.out.frm.block q (h5.lt q hq).2 (by show ¬ q = b7; have h1 := (h5.lt q hq).1; have h2 := HB67.out; have h3 := HZ10.out; omega)), HF5.out.trans HS.out.frm fun q hq => .inl hq⟩
        case measure => have := HLT.out; simp [intOf]; omega
      have hjn : j = tn := by omega
      have HT := hid (show (tl.take j).flatten = tl.flatten by rw [hjn, HTN.out, List.take_length])
      have hki : ¬ (j : Int) < (tn : Int) := by omega
      have hD := HO2.out
      rw [HT.out] at hD
      rw [HT.out] at hxn
      have hDl : tl.flatten.length ≤ 1000000000 := by rw [← hxn]; exact hxl
      obtain ⟨dd, hdd⟩ : ∃ dd, dd = tl.flatten := ⟨_, rfl⟩
      rw [← hdd] at hD hxn hDl
      subst hxn
      have HBYD := hid (rown_byF hD (by omega))
      obtain ⟨QQ, hQQ⟩ : ∃ q, q = (⟨(n1 : Int), (n2 : Int), (numsG k sc3).1, dd⟩ : Sn) := ⟨_, rfl⟩
      have hZ2 := HF2.out.size
      have HSN := hid (show SnV (fun q => b7 < q ∧ q < wr.heap.size) wr (.agg #[.int .i64 (n1 : Int), .int .i64 (n2 : Int), .slice va k vc, .slice xa dd.length xc]) QQ by
        rw [hQQ]
        refine ⟨va, k, vc, xa, dd.length, xc, rfl, ⟨by show _ ≤ (n1 : Int); omega, by show (n1 : Int) ≤ _; omega⟩, ⟨by show _ ≤ (n2 : Int); omega, by show (n2 : Int) ≤ _; omega⟩, HVS.out.keep fun q hq hl => ?_, HBYD.out.more fun q hq => ⟨by have h2 := HB67.out; have h3 := HZ10.out; omega, hq.2⟩⟩
        have h1 := HVB.out q hq
        have h2 := HB67.out
        exact ⟨⟨by omega, by omega⟩, HF2.out.block q hl (by show ¬ q = b7; omega)⟩)
      have HSAME := hid (show ∀ s, checkS s = 0 → fileB s = b → s = QQ from fun s hs hf => by
        have h1 := rowsB_file hs
        rw [hf, ← HRW.out] at h1
        have h2 := congrArg Prod.fst h1
        have h3 : H = headS s ∧ tl = chunksB s.d := by injection h2 with h4 h5; exact ⟨h4, h5⟩
        have h6 := refQ_same hs
        rw [← h3.1, ← h3.2, HQ.out] at h6
        rw [hQQ, hdd]
        exact h6.symm)
      have HRZ := hid ((HF2.out.block w.heap.size (Array.getElem?_eq_some_iff.1 HRES.out).1 (by show ¬ _ = b7; have h1 := HB67.out; have h2 := HLR.out; omega)).trans HRES.out)
      have HXZ := hid (ext_frm HXW.out HF2.out fun q hq => by have h1 := HB67.out; have h2 := HLR.out; rw [hq]; omega)
      have HE3 := hid HE2.out
      clear hjn hlt hD hDl hdd hQQ hZ2 HE2
      go_wp2
      generalize wr = wz at *
      have y0 : Frm (fun q => q = w.heap.size) wz wz.drew := Frm.of_ext (ext_drew wz) _
      have HCL := hid (fun (W : World) (hW : Frm (fun q => q = w.heap.size) wz W) => (cells4 ((hW.block b7 (Array.getElem?_eq_some_iff.1 HE3.out).1 (by show ¬ b7 = _; have h1 := HB67.out; have h2 := HLR.out; omega)).trans HE3.out)).1)
      have HBW := hid (fun (W : World) (hW : Frm (fun q => q = w.heap.size) wz W) => HB.out.keep (w' := W) (G := fun q => True) fun q hq hl => ⟨trivial, (hW.block q (Nat.lt_of_lt_of_le hl HXZ.out.size) (by show ¬ q = _; omega)).trans (HXZ.out.block q hl)⟩)
      have HCK := hid (fun (W : World) (hW : Frm (fun q => q = w.heap.size) wz W) => RCheck_any (HSN.out.keep (w' := W) (G := fun q => w.heap.size < q ∧ q < wz.heap.size) fun q hq hl => ⟨⟨by have h1 := HB67.out; have h2 := HLR.out; omega, hl⟩, hW.block q hl (by show ¬ q = _; have h1 := HB67.out; have h2 := HLR.out; omega)⟩))
      refine wp_region_held_drew (S := fun W => Frm (fun q => q = w.heap.size) wz W) (by kernel_rfl) y0 (fun hH => ?_)
      obtain ⟨wd, hwd⟩ : ∃ wd, wd = wz.drew := ⟨_, rfl⟩
      have HXD := hid (show Ext wz wd by rw [hwd]; exact ext_drew wz)
      rw [← hwd] at y0 ⊢
      clear hH hwd
      refine hr_ 0 (.agg #[.int .i64 (n1 : Int), .int .i64 (n2 : Int), .slice va k vc, .slice xa dd.length xc]) rfl y0 (fun W hW => ?_) ?_
      · (obtain ⟨q0, q1, q2, q3⟩ := HCL.out W hW; clear hW; go_simp)
      try simp only [Act.put, sA_, s0_, sS_]
      refine hr_ 1 (.agg #[.int .i64 (n1 : Int), .int .i64 (n2 : Int), .slice va k vc, .slice xa dd.length xc]) rfl y0 (fun W hW => ?_) ?_
      · (obtain ⟨q0, q1, q2, q3⟩ := HCL.out W hW; clear hW; go_simp)
      try simp only [Act.put, sA_, s0_, sS_]
      rcases checkS_vals QQ with hcz | hcz | hcz
      · have HCZ := hid hcz
        rw [hcz] at HCK
        clear hcz
        refine hc_ 2 rfl (fun K hK => ?_)
        go_simp
        go_at_call 13
        refine Calls.mono (HCK.out _ y0) ?_
        rintro e wa ⟨rfl, hxa⟩
        have y1 := y0.then_ext hxa
        have HXA := hid (HXD.out.trans' hxa)
        clear hxa HCK
        refine hK.out _ _ y1 (fun hH => ?_)
        clear hK K y0 hH
        have y0 := y1
        clear y1
        try simp only [Act.put, sA_, s0_, sS_]
        refine hr_ 3 (.bool true) rfl y0 (fun W hW => ?_) ?_
        · (clear hW; go_simp)
        try simp only [Act.put, sA_, s0_, sS_]
        refine hr_ 4 (.bool true) rfl y0 (fun W hW => ?_) ?_
        · (clear hW; go_simp)
        try simp only [Act.put, sA_, s0_, sS_]
        refine hr_ 5 (.agg #[.int .i64 (n1 : Int), .int .i64 (n2 : Int), .slice va k vc, .slice xa dd.length xc]) rfl y0 (fun W hW => ?_) ?_
        · (obtain ⟨q0, q1, q2, q3⟩ := HCL.out W hW; clear hW; go_simp)
        try simp only [Act.put, sA_, s0_, sS_]
        refine hr_ 8 (.slice a n c) rfl y0 (fun W hW => ?_) ?_
        · (clear hW; go_simp)
        try simp only [Act.put, sA_, s0_, sS_]
        refine hr_ 9 (.string ⟨b.toArray⟩) rfl y0 (fun W hW => ?_) ?_
        · exact exec_convert rfl (conv_str (HBW.out W hW))
        try simp only [Act.put, sA_, s0_, sS_]
        refine hc_ 6 rfl (fun K hK => ?_)
        rw [if_pos (by rfl)]
        go_simp
        go_at_call 105
        refine Calls.mono (RFile_any (HSN.out.below HXA.out) HCZ.out) ?_
        rintro e wb ⟨fa, fn, fc, rfl, hfb, hxb⟩
        have y1 := y0.then_ext hxb
        have HXB := hid (HXA.out.trans' hxb)
        have HSB := hid (HSN.out.below HXB.out)
        have HRB := hid ((HXB.out.block w.heap.size (Array.getElem?_eq_some_iff.1 HRZ.out).1).trans HRZ.out)
        have HFB := hid hfb
        have HZB := hid (show w.heap.size < wa.heap.size from Nat.lt_of_lt_of_le (Array.getElem?_eq_some_iff.1 HRZ.out).1 HXA.out.size)
        have HXWB := hid (HXZ.out.trans' HXB.out)
        clear hfb hxb
        refine hK.out _ _ y1 (fun hH => ?_)
        clear hK K y0 hH
        have y0 := y1
        clear y1
        try simp only [Act.put, sA_, s0_, sS_]
        obtain ⟨fb, hfb⟩ : ∃ fb, fb = fileB QQ := ⟨_, rfl⟩
        rw [← hfb] at HFB
        have hnew := four_set2 HRB.out (.int .i64 (n1 : Int)) (.int .i64 (n2 : Int)) (.slice va k vc) (.slice xa dd.length xc)
        have HNEW := hid hnew
        clear hnew
        by_cases hfbb : fb = b
        · have HYES := hid (show fileB QQ = b from hfb ▸ hfbb)
          subst hfbb
          clear hfb
          refine wpAnyH_ready (rs := [7, 12]) (by kernel_rfl) (by simp) ?_
          refine held_cons2 (i := 7) (j := 12) rfl rfl (fun K hK => ?_) (fun K hK => ?_)
          · skip
            refine wp_exec1 (by rfl) (v := .string ⟨fb.toArray⟩) (exec_convert rfl (conv_str HFB.out)) ?_
            have y1 := y0
            refine hK.out _ _ y1 (fun hH => ?_)
            clear hK K y0 hH
            have y0 := y1
            clear y1
            try simp only [Act.put, sA_, s0_, sS_]
            refine hr_ 10 (.bool true) rfl y0 (fun W hW => ?_) ?_
            · (clear hW; go_simp)
            try simp only [Act.put, sA_, s0_, sS_]
            refine hr_ 11 (.bool true) rfl y0 (fun W hW => ?_) ?_
            · (clear hW; go_simp)
            try simp only [Act.put, sA_, s0_, sS_]
            refine hc_ 12 rfl (fun K hK => ?_)
            obtain ⟨⟨m0, m1, m2, m3⟩, ⟨l0, l1, l2, l3⟩, hlc⟩ := cells4 HRB.out
            go_simp
            have y1 := y0.trans HNEW.out.frm fun q hq => .inl hq
            clear m0 m1 m2 m3 l0 l1 l2 l3 hlc
            refine hK.out _ _ y1 (fun hH => ?_)
            clear hK K y0 hH
            have y0 := y1
            clear y1
            try simp only [Act.put, sA_, s0_, sS_]
            refine hr_ 13 (.bool true) rfl y0 (fun W hW => ?_) ?_
            · (clear hW; go_simp)
            try simp only [Act.put, sA_, s0_, sS_]
            refine wpAnyH_done (by kernel_rfl) ?_ _
            clear y0
            go_wp2
            exact r6_ret (q := QQ) (ok := true) rfl rfl HRB.out HXWB.out (HSB.out.keep fun q hq hl => ⟨⟨by have h1 := HB67.out; have h2 := HLR.out; omega, hl⟩, rfl⟩) (.inl ⟨rfl, HCZ.out, HYES.out⟩)
          skip
          obtain ⟨⟨m0, m1, m2, m3⟩, ⟨l0, l1, l2, l3⟩, hlc⟩ := cells4 HRB.out
          go_simp
          have y1 := y0.trans HNEW.out.frm fun q hq => .inl hq
          clear m0 m1 m2 m3 l0 l1 l2 l3 hlc
          refine hK.out _ _ y1 (fun hH => ?_)
          clear hK K y0 hH
          have y0 := y1
          clear y1
          try simp only [Act.put, sA_, s0_, sS_]
          refine hc_ 7 rfl (fun K hK => ?_)
          refine wp_exec1 (by rfl) (v := .string ⟨fb.toArray⟩) (exec_convert rfl (conv_str (HFB.out.keep (G := fun _ => True) fun q hq hl => ⟨trivial, HNEW.out.frm.block q hl (by show ¬ q = _; have := HZB.out; omega)⟩))) ?_
          have y1 := y0
          refine hK.out _ _ y1 (fun hH => ?_)
          clear hK K y0 hH
          have y0 := y1
          clear y1
          try simp only [Act.put, sA_, s0_, sS_]
          refine hr_ 10 (.bool true) rfl y0 (fun W hW => ?_) ?_
          · (clear hW; go_simp)
          try simp only [Act.put, sA_, s0_, sS_]
          refine hr_ 11 (.bool true) rfl y0 (fun W hW => ?_) ?_
          · (clear hW; go_simp)
          try simp only [Act.put, sA_, s0_, sS_]
          refine hr_ 13 (.bool true) rfl y0 (fun W hW => ?_) ?_
          · (clear hW; go_simp)
          try simp only [Act.put, sA_, s0_, sS_]
          refine wpAnyH_done (by kernel_rfl) ?_ _
          clear y0
          go_wp2
          exact r6_ret (q := QQ) (ok := true) rfl rfl HRB.out HXWB.out (HSB.out.keep fun q hq hl => ⟨⟨by have h1 := HB67.out; have h2 := HLR.out; omega, hl⟩, rfl⟩) (.inl ⟨rfl, HCZ.out, HYES.out⟩)
        have HNO := hid (show ∀ s, checkS s = 0 → fileB s ≠ b from fun s hs hf => hfbb (by rw [hfb, ← HSAME.out s hs hf]; exact hf))
        clear hfb
        refine wpAnyH_ready (rs := [7, 12]) (by kernel_rfl) (by simp) ?_
        refine held_cons2 (i := 7) (j := 12) rfl rfl (fun K hK => ?_) (fun K hK => ?_)
        · skip
          refine wp_exec1 (by rfl) (v := .string ⟨fb.toArray⟩) (exec_convert rfl (conv_str HFB.out)) ?_
          have y1 := y0
          refine hK.out _ _ y1 (fun hH => ?_)
          clear hK K y0 hH
          have y0 := y1
          clear y1
          try simp only [Act.put, sA_, s0_, sS_]
          refine hr_ 10 (.bool false) rfl y0 (fun W hW => ?_) ?_
          · (clear hW; go_simp)
          try simp only [Act.put, sA_, s0_, sS_]
          refine hr_ 11 (.bool false) rfl y0 (fun W hW => ?_) ?_
          · (clear hW; go_simp)
          try simp only [Act.put, sA_, s0_, sS_]
          refine hc_ 12 rfl (fun K hK => ?_)
          obtain ⟨⟨m0, m1, m2, m3⟩, ⟨l0, l1, l2, l3⟩, hlc⟩ := cells4 HRB.out
          go_simp
          have y1 := y0.trans HNEW.out.frm fun q hq => .inl hq
          clear m0 m1 m2 m3 l0 l1 l2 l3 hlc
          refine hK.out _ _ y1 (fun hH => ?_)
          clear hK K y0 hH
          have y0 := y1
          clear y1
          try simp only [Act.put, sA_, s0_, sS_]
          refine hr_ 13 (.bool false) rfl y0 (fun W hW => ?_) ?_
          · (clear hW; go_simp)
          try simp only [Act.put, sA_, s0_, sS_]
          refine wpAnyH_done (by kernel_rfl) ?_ _
          clear y0
          go_wp2
          exact r6_ret (q := QQ) (ok := false) rfl rfl HRB.out HXWB.out (HSB.out.keep fun q hq hl => ⟨⟨by have h1 := HB67.out; have h2 := HLR.out; omega, hl⟩, rfl⟩) (.inr ⟨rfl, HNO.out⟩)
        skip
        obtain ⟨⟨m0, m1, m2, m3⟩, ⟨l0, l1, l2, l3⟩, hlc⟩ := cells4 HRB.out
        go_simp
        have y1 := y0.trans HNEW.out.frm fun q hq => .inl hq
        clear m0 m1 m2 m3 l0 l1 l2 l3 hlc
        refine hK.out _ _ y1 (fun hH => ?_)
        clear hK K y0 hH
        have y0 := y1
        clear y1
        try simp only [Act.put, sA_, s0_, sS_]
        refine hc_ 7 rfl (fun K hK => ?_)
        refine wp_exec1 (by rfl) (v := .string ⟨fb.toArray⟩) (exec_convert rfl (conv_str (HFB.out.keep (G := fun _ => True) fun q hq hl => ⟨trivial, HNEW.out.frm.block q hl (by show ¬ q = _; have := HZB.out; omega)⟩))) ?_
        have y1 := y0
        refine hK.out _ _ y1 (fun hH => ?_)
        clear hK K y0 hH
        have y0 := y1
        clear y1
        try simp only [Act.put, sA_, s0_, sS_]
        refine hr_ 10 (.bool false) rfl y0 (fun W hW => ?_) ?_
        · (clear hW; go_simp)
        try simp only [Act.put, sA_, s0_, sS_]
        refine hr_ 11 (.bool false) rfl y0 (fun W hW => ?_) ?_
        · (clear hW; go_simp)
        try simp only [Act.put, sA_, s0_, sS_]
        refine hr_ 13 (.bool false) rfl y0 (fun W hW => ?_) ?_
        · (clear hW; go_simp)
        try simp only [Act.put, sA_, s0_, sS_]
        refine wpAnyH_done (by kernel_rfl) ?_ _
        clear y0
        go_wp2
        exact r6_ret (q := QQ) (ok := false) rfl rfl HRB.out HXWB.out (HSB.out.keep fun q hq hl => ⟨⟨by have h1 := HB67.out; have h2 := HLR.out; omega, hl⟩, rfl⟩) (.inr ⟨rfl, HNO.out⟩)
      · have HCZ := hid hcz
        rw [hcz] at HCK
        clear hcz
        refine hc_ 2 rfl (fun K hK => ?_)
        go_simp
        go_at_call 13
        refine Calls.mono (HCK.out _ y0) ?_
        rintro e wa ⟨rfl, hxa⟩
        have y1 := y0.then_ext hxa
        have HXA := hid (HXD.out.trans' hxa)
        clear hxa HCK
        refine hK.out _ _ y1 (fun hH => ?_)
        clear hK K y0 hH
        have y0 := y1
        clear y1
        try simp only [Act.put, sA_, s0_, sS_]
        refine hr_ 3 (.bool false) rfl y0 (fun W hW => ?_) ?_
        · (clear hW; go_simp)
        try simp only [Act.put, sA_, s0_, sS_]
        refine hr_ 4 (.bool false) rfl y0 (fun W hW => ?_) ?_
        · (clear hW; go_simp)
        try simp only [Act.put, sA_, s0_, sS_]
        refine hs_ 5 rfl y0 ?_
        try simp only [Act.put, sA_, s0_, sS_]
        refine hs_ 6 rfl y0 ?_
        try simp only [Act.put, sA_, s0_, sS_]
        refine hs_ 7 rfl y0 ?_
        try simp only [Act.put, sA_, s0_, sS_]
        refine hs_ 8 rfl y0 ?_
        try simp only [Act.put, sA_, s0_, sS_]
        refine hs_ 9 rfl y0 ?_
        try simp only [Act.put, sA_, s0_, sS_]
        refine hs_ 10 rfl y0 ?_
        try simp only [Act.put, sA_, s0_, sS_]
        refine hr_ 11 (.bool false) rfl y0 (fun W hW => ?_) ?_
        · (clear hW; go_simp)
        try simp only [Act.put, sA_, s0_, sS_]
        have HRA := hid ((HXA.out.block w.heap.size (Array.getElem?_eq_some_iff.1 HRZ.out).1).trans HRZ.out)
        have HNEW := hid (four_set2 HRA.out (.int .i64 (n1 : Int)) (.int .i64 (n2 : Int)) (.slice va k vc) (.slice xa dd.length xc))
        refine hc_ 12 rfl (fun K hK => ?_)
        obtain ⟨⟨m0, m1, m2, m3⟩, ⟨l0, l1, l2, l3⟩, hlc⟩ := cells4 HRA.out
        go_simp
        have y1 := y0.trans HNEW.out.frm fun q hq => .inl hq
        clear m0 m1 m2 m3 l0 l1 l2 l3 hlc
        refine hK.out _ _ y1 (fun hH => ?_)
        clear hK K y0 hH
        have y0 := y1
        clear y1
        try simp only [Act.put, sA_, s0_, sS_]
        refine hr_ 13 (.bool false) rfl y0 (fun W hW => ?_) ?_
        · (clear hW; go_simp)
        try simp only [Act.put, sA_, s0_, sS_]
        refine wpAnyH_done (by kernel_rfl) ?_ _
        clear y0
        go_wp2
        exact r6_ret (q := QQ) (ok := false) rfl rfl HRA.out (HXZ.out.trans' HXA.out) ((HSN.out.below HXA.out).keep fun q hq hl => ⟨⟨by have h1 := HB67.out; have h2 := HLR.out; omega, hl⟩, rfl⟩) (.inr ⟨rfl, fun s hs hf => by have h1 := HSAME.out s hs hf; rw [h1, HCZ.out] at hs; cases hs⟩)
      have HCZ := hid hcz
      rw [hcz] at HCK
      clear hcz
      refine hc_ 2 rfl (fun K hK => ?_)
      go_simp
      go_at_call 13
      refine Calls.mono (HCK.out _ y0) ?_
      rintro e wa ⟨rfl, hxa⟩
      have y1 := y0.then_ext hxa
      have HXA := hid (HXD.out.trans' hxa)
      clear hxa HCK
      refine hK.out _ _ y1 (fun hH => ?_)
      clear hK K y0 hH
      have y0 := y1
      clear y1
      try simp only [Act.put, sA_, s0_, sS_]
      refine hr_ 3 (.bool false) rfl y0 (fun W hW => ?_) ?_
      · (clear hW; go_simp)
      try simp only [Act.put, sA_, s0_, sS_]
      refine hr_ 4 (.bool false) rfl y0 (fun W hW => ?_) ?_
      · (clear hW; go_simp)
      try simp only [Act.put, sA_, s0_, sS_]
      refine hs_ 5 rfl y0 ?_
      try simp only [Act.put, sA_, s0_, sS_]
      refine hs_ 6 rfl y0 ?_
      try simp only [Act.put, sA_, s0_, sS_]
      refine hs_ 7 rfl y0 ?_
      try simp only [Act.put, sA_, s0_, sS_]
      refine hs_ 8 rfl y0 ?_
      try simp only [Act.put, sA_, s0_, sS_]
      refine hs_ 9 rfl y0 ?_
      try simp only [Act.put, sA_, s0_, sS_]
      refine hs_ 10 rfl y0 ?_
      try simp only [Act.put, sA_, s0_, sS_]
      refine hr_ 11 (.bool false) rfl y0 (fun W hW => ?_) ?_
      · (clear hW; go_simp)
      try simp only [Act.put, sA_, s0_, sS_]
      have HRA := hid ((HXA.out.block w.heap.size (Array.getElem?_eq_some_iff.1 HRZ.out).1).trans HRZ.out)
      have HNEW := hid (four_set2 HRA.out (.int .i64 (n1 : Int)) (.int .i64 (n2 : Int)) (.slice va k vc) (.slice xa dd.length xc))
      refine hc_ 12 rfl (fun K hK => ?_)
      obtain ⟨⟨m0, m1, m2, m3⟩, ⟨l0, l1, l2, l3⟩, hlc⟩ := cells4 HRA.out
      go_simp
      have y1 := y0.trans HNEW.out.frm fun q hq => .inl hq
      clear m0 m1 m2 m3 l0 l1 l2 l3 hlc
      refine hK.out _ _ y1 (fun hH => ?_)
      clear hK K y0 hH
      have y0 := y1
      clear y1
      try simp only [Act.put, sA_, s0_, sS_]
      refine hr_ 13 (.bool false) rfl y0 (fun W hW => ?_) ?_
      · (clear hW; go_simp)
      try simp only [Act.put, sA_, s0_, sS_]
      refine wpAnyH_done (by kernel_rfl) ?_ _
      clear y0
      go_wp2
      exact r6_ret (q := QQ) (ok := false) rfl rfl HRA.out (HXZ.out.trans' HXA.out) ((HSN.out.below HXA.out).keep fun q hq hl => ⟨⟨by have h1 := HB67.out; have h2 := HLR.out; omega, hl⟩, rfl⟩) (.inr ⟨rfl, fun s hs hf => by have h1 := HSAME.out s hs hf; rw [h1, HCZ.out] at hs; cases hs⟩)
    skip
    have hk3 : (k : Int) < (n3 : Int) := by omega
    have hk8 : ¬ (k : Int) < 8 := by have := HNV.out; omega
    clear hn8
    subst hkn
    have HVS := hid ((show OwnI w4.heap.size wr (.slice va k vc) (numsG k sc3).1 by unfold OwnI; rw [numsG_len]; exact HO.out).isf (by rw [numsG_len]; omega) HI.out.2.2)
    have HVB := hid (fun q (hq : (Value.slice va k vc).ownBlock = some q) => HO.out.lt q hq)
    obtain ⟨ta, tn, tc, hsl, hsl2, htl⟩ := bs_tail HBS.out
    have htn := htl.1
    have HTN := hid htn
    have htn9 : tn ≤ 1000000000 := by have h1 := HBD.out.1; have h2 := HBD.out.2.1; have h3 := HNB.out; rw [List.length_cons] at h1; omega
    have HTL := hid (htl.keep (w' := wr) (G := fun q => q < b6) fun q hq hl => ⟨by rw [HB67.out.1]; exact hl, (HF.out.block q (Nat.lt_of_lt_of_le hl HX24.out.size) (by show ¬ (q = b6 ∨ q = b7); have := HB67.out; omega)).trans (HX24.out.block q hl)⟩)
    have HXW := hid (ext_frm HX04.out HF.out fun q hq => by have h1 := HB67.out; have h2 := HLR.out; rcases hq with h | h <;> omega)
    have HRES := hid ((HF.out.block w.heap.size (Nat.lt_of_lt_of_le (Array.getElem?_eq_some_iff.1 HQ2.out).1 HX24.out.size) (by show ¬ (_ = b6 ∨ _ = b7); have h1 := HB67.out; have h2 := HLR.out; omega)).trans ((HX24.out.block w.heap.size (Array.getElem?_eq_some_iff.1 HQ2.out).1).trans HQ2.out))
    have HZ10 := hid (show w4.heap.size ≤ wr.heap.size from HF.out.size)
    clear htl htn hlt
    generalize wr = w10 at *
    go_wp2
    go_loopw [11, 54] (fun _ z wl => ∃ (j xn xc : Nat) (xa : Option Addr), j ≤ tn ∧ z = .int .i64 (j : Int) ∧ Hid (wl.heap[b7]? = some (.cells #[.int .i64 (n1 : Int), .int .i64 (n2 : Int), .slice va k vc, .slice xa xn xc] 25 (0, 0))) ∧
        Hid (wl.ownsRow w10.heap.size 5 1 (.slice xa xn xc) xn (u8s (tl.take j).flatten)) ∧ Hid (Frm (fun q => q = b7) w10 wl)) (fun _ z _ => tn - (intOf z).toNat)
    case atStart => exact ⟨0, 0, 0, none, Nat.zero_le _, rfl, HE.out, hid (World.ownsRow_nil _ _ _ _), Frm.refl _ _⟩
    obtain ⟨j, xn, xc, xa, hj, rfl, HE2, HO2, HF2⟩ := hrel
    have hxn : xn = (tl.take j).flatten.length := by have h1 := HO2.out.1; unfold u8s at h1; rw [List.length_map] at h1; omega
    have hxl : xn ≤ 1000000000 := by have h0 := flat_len_take tl j; have h1 := HBD.out.2.2.2; have h2 := HNB.out; rw [List.flatten_cons, List.length_append] at h1; omega
    by_cases hlt : j < tn
    · obtain ⟨pb2, po2, rfl, hbl2, hkl2, a', n', c', q2, hby⟩ := (HTL.out.keep (w' := wr) (G := fun q => q < b6) fun q hq hl => ⟨hq, HF2.out.block q hl (by show ¬ q = b7; have := HB67.out; omega)⟩).at_ hlt
      have hft := flat_take2 tl j hkl2
      have hfl := flat_len_take tl (j + 1)
      generalize tl[j] = p at *
      have hn' := hby.1
      have hn'l : n' + xn ≤ 1000000000 := by rw [hft, List.length_append] at hfl; have h1 := HBD.out.2.2.2; have h2 := HNB.out; rw [List.flatten_cons, List.length_append] at h1; omega
      have hn'l2 : n' ≤ 1000000000 := by omega
      have HFT := hid hft
      have hki : (j : Int) < (tn : Int) := by omega
      have hki0 : (0 : Int) ≤ (j : Int) := by omega
      have hac : a' = none → c' = 0 := hby.2.2.2.1
      have HRAW := hid hby.raw
      obtain ⟨⟨d0, d1, d2, d3⟩, ⟨g0, g1, g2, g3⟩, hlb⟩ := cells4 HE2.out
      have HLT := hid hlt
      clear hby hft hfl hn' hxn hlt
      go_wp2_with (at_builtin; refine wpList_append_row rfl (.tmp 59) (.tmp 60) _ rfl w10.heap.size 5 (.int .u8 0) 1 1 Tryz.underlying23 info_u8 rfl (by decide) (.slice xa xn xc) xn _ rfl HO2.out a' n' c' (u8s p) rfl hac HRAW.out (u8s_mem p) (by unfold maxLen; omega) (by omega) HF2.out.size ?_; intro v5 w5 hown5 hg5; obtain ⟨a5, c5, rfl⟩ := own_slice2 hown5; have he5 := (hg5.block b7 (Array.getElem?_eq_some_iff.1 HE2.out).1 (fun e => by have h1 := (HO2.out.lt b7 e.symm).1; have h2 := HB67.out; have h3 := HZ10.out; omega)).trans HE2.out; obtain ⟨⟨h50, h51, h52, h53⟩, ⟨k50, k51, k52, k53⟩, hl5⟩ := cells4 he5; have HS := hid ((SetG.start he5).step 3 (.slice a5 (xn + n') c5)); have HF5 := hid (HF2.out.trans (frm_grown hg5) fun q hq => .inr (HO2.out.lt q hq).1); have HO5 := hid hown5; clear hown5 hg5 he5)
      go_roundw
      case rel => exact ⟨j + 1, xn + n', c5, a5, by have := HLT.out; omega, by go_num, hid HS.out.obj, hid (by
        have h5 := HO5.out
        rw [HFT.out]
        unfold u8s at h5 ⊢
        rw [List.map_append]
        exact own_keep h5 fun q hq => HS.out.frm.block q (h5.lt q hq).2 (by show ¬ q = b7; have h1 := (h5.lt q hq).1; have h2 := HB67.out; have h3 := HZ10.out; omega)), HF5.out.trans HS.out.frm fun q hq => .inl hq⟩
      case measure => have := HLT.out; simp [intOf]; omega
    have hjn : j = tn := by omega
    have HT := hid (show (tl.take j).flatten = tl.flatten by rw [hjn, HTN.out, List.take_length])
    have hki : ¬ (j : Int) < (tn : Int) := by omega
    have hD := HO2.out
    rw [HT.out] at hD
    rw [HT.out] at hxn
    have hDl : tl.flatten.length ≤ 1000000000 := by rw [← hxn]; exact hxl
    obtain ⟨dd, hdd⟩ : ∃ dd, dd = tl.flatten := ⟨_, rfl⟩
    rw [← hdd] at hD hxn hDl
    subst hxn
    have HBYD := hid (rown_byF hD (by omega))
    obtain ⟨QQ, hQQ⟩ : ∃ q, q = (⟨(n1 : Int), (n2 : Int), (numsG k sc3).1, dd⟩ : Sn) := ⟨_, rfl⟩
    have hZ2 := HF2.out.size
    have HSN := hid (show SnV (fun q => b7 < q ∧ q < wr.heap.size) wr (.agg #[.int .i64 (n1 : Int), .int .i64 (n2 : Int), .slice va k vc, .slice xa dd.length xc]) QQ by
      rw [hQQ]
      refine ⟨va, k, vc, xa, dd.length, xc, rfl, ⟨by show _ ≤ (n1 : Int); omega, by show (n1 : Int) ≤ _; omega⟩, ⟨by show _ ≤ (n2 : Int); omega, by show (n2 : Int) ≤ _; omega⟩, HVS.out.keep fun q hq hl => ?_, HBYD.out.more fun q hq => ⟨by have h2 := HB67.out; have h3 := HZ10.out; omega, hq.2⟩⟩
      have h1 := HVB.out q hq
      have h2 := HB67.out
      exact ⟨⟨by omega, by omega⟩, HF2.out.block q hl (by show ¬ q = b7; omega)⟩)
    have HSAME := hid (show ∀ s, checkS s = 0 → fileB s = b → s = QQ from fun s hs hf => by
      have h1 := rowsB_file hs
      rw [hf, ← HRW.out] at h1
      have h2 := congrArg Prod.fst h1
      have h3 : H = headS s ∧ tl = chunksB s.d := by injection h2 with h4 h5; exact ⟨h4, h5⟩
      have h6 := refQ_same hs
      rw [← h3.1, ← h3.2, HQ.out] at h6
      rw [hQQ, hdd]
      exact h6.symm)
    have HRZ := hid ((HF2.out.block w.heap.size (Array.getElem?_eq_some_iff.1 HRES.out).1 (by show ¬ _ = b7; have h1 := HB67.out; have h2 := HLR.out; omega)).trans HRES.out)
    have HXZ := hid (ext_frm HXW.out HF2.out fun q hq => by have h1 := HB67.out; have h2 := HLR.out; rw [hq]; omega)
    have HE3 := hid HE2.out
    clear hjn hlt hD hDl hdd hQQ hZ2 HE2
    go_wp2
    generalize wr = wz at *
    have y0 : Frm (fun q => q = w.heap.size) wz wz.drew := Frm.of_ext (ext_drew wz) _
    have HCL := hid (fun (W : World) (hW : Frm (fun q => q = w.heap.size) wz W) => (cells4 ((hW.block b7 (Array.getElem?_eq_some_iff.1 HE3.out).1 (by show ¬ b7 = _; have h1 := HB67.out; have h2 := HLR.out; omega)).trans HE3.out)).1)
    have HBW := hid (fun (W : World) (hW : Frm (fun q => q = w.heap.size) wz W) => HB.out.keep (w' := W) (G := fun q => True) fun q hq hl => ⟨trivial, (hW.block q (Nat.lt_of_lt_of_le hl HXZ.out.size) (by show ¬ q = _; omega)).trans (HXZ.out.block q hl)⟩)
    have HCK := hid (fun (W : World) (hW : Frm (fun q => q = w.heap.size) wz W) => RCheck_any (HSN.out.keep (w' := W) (G := fun q => w.heap.size < q ∧ q < wz.heap.size) fun q hq hl => ⟨⟨by have h1 := HB67.out; have h2 := HLR.out; omega, hl⟩, hW.block q hl (by show ¬ q = _; have h1 := HB67.out; have h2 := HLR.out; omega)⟩))
    refine wp_region_held_drew (S := fun W => Frm (fun q => q = w.heap.size) wz W) (by kernel_rfl) y0 (fun hH => ?_)
    obtain ⟨wd, hwd⟩ : ∃ wd, wd = wz.drew := ⟨_, rfl⟩
    have HXD := hid (show Ext wz wd by rw [hwd]; exact ext_drew wz)
    rw [← hwd] at y0 ⊢
    clear hH hwd
    refine hr_ 0 (.agg #[.int .i64 (n1 : Int), .int .i64 (n2 : Int), .slice va k vc, .slice xa dd.length xc]) rfl y0 (fun W hW => ?_) ?_
    · (obtain ⟨q0, q1, q2, q3⟩ := HCL.out W hW; clear hW; go_simp)
    try simp only [Act.put, sA_, s0_, sS_]
    refine hr_ 1 (.agg #[.int .i64 (n1 : Int), .int .i64 (n2 : Int), .slice va k vc, .slice xa dd.length xc]) rfl y0 (fun W hW => ?_) ?_
    · (obtain ⟨q0, q1, q2, q3⟩ := HCL.out W hW; clear hW; go_simp)
    try simp only [Act.put, sA_, s0_, sS_]
    rcases checkS_vals QQ with hcz | hcz | hcz
    · have HCZ := hid hcz
      rw [hcz] at HCK
      clear hcz
      refine hc_ 2 rfl (fun K hK => ?_)
      go_simp
      go_at_call 13
      refine Calls.mono (HCK.out _ y0) ?_
      rintro e wa ⟨rfl, hxa⟩
      have y1 := y0.then_ext hxa
      have HXA := hid (HXD.out.trans' hxa)
      clear hxa HCK
      refine hK.out _ _ y1 (fun hH => ?_)
      clear hK K y0 hH
      have y0 := y1
      clear y1
      try simp only [Act.put, sA_, s0_, sS_]
      refine hr_ 3 (.bool true) rfl y0 (fun W hW => ?_) ?_
      · (clear hW; go_simp)
      try simp only [Act.put, sA_, s0_, sS_]
      refine hr_ 4 (.bool true) rfl y0 (fun W hW => ?_) ?_
      · (clear hW; go_simp)
      try simp only [Act.put, sA_, s0_, sS_]
      refine hr_ 5 (.agg #[.int .i64 (n1 : Int), .int .i64 (n2 : Int), .slice va k vc, .slice xa dd.length xc]) rfl y0 (fun W hW => ?_) ?_
      · (obtain ⟨q0, q1, q2, q3⟩ := HCL.out W hW; clear hW; go_simp)
      try simp only [Act.put, sA_, s0_, sS_]
      refine hr_ 8 (.slice a n c) rfl y0 (fun W hW => ?_) ?_
      · (clear hW; go_simp)
      try simp only [Act.put, sA_, s0_, sS_]
      refine hr_ 9 (.string ⟨b.toArray⟩) rfl y0 (fun W hW => ?_) ?_
      · exact exec_convert rfl (conv_str (HBW.out W hW))
      try simp only [Act.put, sA_, s0_, sS_]
      refine hc_ 6 rfl (fun K hK => ?_)
      rw [if_pos (by rfl)]
      go_simp
      go_at_call 105
      refine Calls.mono (RFile_any (HSN.out.below HXA.out) HCZ.out) ?_
      rintro e wb ⟨fa, fn, fc, rfl, hfb, hxb⟩
      have y1 := y0.then_ext hxb
      have HXB := hid (HXA.out.trans' hxb)
      have HSB := hid (HSN.out.below HXB.out)
      have HRB := hid ((HXB.out.block w.heap.size (Array.getElem?_eq_some_iff.1 HRZ.out).1).trans HRZ.out)
      have HFB := hid hfb
      have HZB := hid (show w.heap.size < wa.heap.size from Nat.lt_of_lt_of_le (Array.getElem?_eq_some_iff.1 HRZ.out).1 HXA.out.size)
      have HXWB := hid (HXZ.out.trans' HXB.out)
      clear hfb hxb
      refine hK.out _ _ y1 (fun hH => ?_)
      clear hK K y0 hH
      have y0 := y1
      clear y1
      try simp only [Act.put, sA_, s0_, sS_]
      obtain ⟨fb, hfb⟩ : ∃ fb, fb = fileB QQ := ⟨_, rfl⟩
      rw [← hfb] at HFB
      have hnew := four_set2 HRB.out (.int .i64 (n1 : Int)) (.int .i64 (n2 : Int)) (.slice va k vc) (.slice xa dd.length xc)
      have HNEW := hid hnew
      clear hnew
      by_cases hfbb : fb = b
      · have HYES := hid (show fileB QQ = b from hfb ▸ hfbb)
        subst hfbb
        clear hfb
        refine wpAnyH_ready (rs := [7, 12]) (by kernel_rfl) (by simp) ?_
        refine held_cons2 (i := 7) (j := 12) rfl rfl (fun K hK => ?_) (fun K hK => ?_)
        · skip
          refine wp_exec1 (by rfl) (v := .string ⟨fb.toArray⟩) (exec_convert rfl (conv_str HFB.out)) ?_
          have y1 := y0
          refine hK.out _ _ y1 (fun hH => ?_)
          clear hK K y0 hH
          have y0 := y1
          clear y1
          try simp only [Act.put, sA_, s0_, sS_]
          refine hr_ 10 (.bool true) rfl y0 (fun W hW => ?_) ?_
          · (clear hW; go_simp)
          try simp only [Act.put, sA_, s0_, sS_]
          refine hr_ 11 (.bool true) rfl y0 (fun W hW => ?_) ?_
          · (clear hW; go_simp)
          try simp only [Act.put, sA_, s0_, sS_]
          refine hc_ 12 rfl (fun K hK => ?_)
          obtain ⟨⟨m0, m1, m2, m3⟩, ⟨l0, l1, l2, l3⟩, hlc⟩ := cells4 HRB.out
          go_simp
          have y1 := y0.trans HNEW.out.frm fun q hq => .inl hq
          clear m0 m1 m2 m3 l0 l1 l2 l3 hlc
          refine hK.out _ _ y1 (fun hH => ?_)
          clear hK K y0 hH
          have y0 := y1
          clear y1
          try simp only [Act.put, sA_, s0_, sS_]
          refine hr_ 13 (.bool true) rfl y0 (fun W hW => ?_) ?_
          · (clear hW; go_simp)
          try simp only [Act.put, sA_, s0_, sS_]
          refine wpAnyH_done (by kernel_rfl) ?_ _
          clear y0
          go_wp2
          exact r6_ret (q := QQ) (ok := true) rfl rfl HRB.out HXWB.out (HSB.out.keep fun q hq hl => ⟨⟨by have h1 := HB67.out; have h2 := HLR.out; omega, hl⟩, rfl⟩) (.inl ⟨rfl, HCZ.out, HYES.out⟩)
        skip
        obtain ⟨⟨m0, m1, m2, m3⟩, ⟨l0, l1, l2, l3⟩, hlc⟩ := cells4 HRB.out
        go_simp
        have y1 := y0.trans HNEW.out.frm fun q hq => .inl hq
        clear m0 m1 m2 m3 l0 l1 l2 l3 hlc
        refine hK.out _ _ y1 (fun hH => ?_)
        clear hK K y0 hH
        have y0 := y1
        clear y1
        try simp only [Act.put, sA_, s0_, sS_]
        refine hc_ 7 rfl (fun K hK => ?_)
        refine wp_exec1 (by rfl) (v := .string ⟨fb.toArray⟩) (exec_convert rfl (conv_str (HFB.out.keep (G := fun _ => True) fun q hq hl => ⟨trivial, HNEW.out.frm.block q hl (by show ¬ q = _; have := HZB.out; omega)⟩))) ?_
        have y1 := y0
        refine hK.out _ _ y1 (fun hH => ?_)
        clear hK K y0 hH
        have y0 := y1
        clear y1
        try simp only [Act.put, sA_, s0_, sS_]
        refine hr_ 10 (.bool true) rfl y0 (fun W hW => ?_) ?_
        · (clear hW; go_simp)
        try simp only [Act.put, sA_, s0_, sS_]
        refine hr_ 11 (.bool true) rfl y0 (fun W hW => ?_) ?_
        · (clear hW; go_simp)
        try simp only [Act.put, sA_, s0_, sS_]
        refine hr_ 13 (.bool true) rfl y0 (fun W hW => ?_) ?_
        · (clear hW; go_simp)
        try simp only [Act.put, sA_, s0_, sS_]
        refine wpAnyH_done (by kernel_rfl) ?_ _
        clear y0
        go_wp2
        exact r6_ret (q := QQ) (ok := true) rfl rfl HRB.out HXWB.out (HSB.out.keep fun q hq hl => ⟨⟨by have h1 := HB67.out; have h2 := HLR.out; omega, hl⟩, rfl⟩) (.inl ⟨rfl, HCZ.out, HYES.out⟩)
      have HNO := hid (show ∀ s, checkS s = 0 → fileB s ≠ b from fun s hs hf => hfbb (by rw [hfb, ← HSAME.out s hs hf]; exact hf))
      clear hfb
      refine wpAnyH_ready (rs := [7, 12]) (by kernel_rfl) (by simp) ?_
      refine held_cons2 (i := 7) (j := 12) rfl rfl (fun K hK => ?_) (fun K hK => ?_)
      · skip
        refine wp_exec1 (by rfl) (v := .string ⟨fb.toArray⟩) (exec_convert rfl (conv_str HFB.out)) ?_
        have y1 := y0
        refine hK.out _ _ y1 (fun hH => ?_)
        clear hK K y0 hH
        have y0 := y1
        clear y1
        try simp only [Act.put, sA_, s0_, sS_]
        refine hr_ 10 (.bool false) rfl y0 (fun W hW => ?_) ?_
        · (clear hW; go_simp)
        try simp only [Act.put, sA_, s0_, sS_]
        refine hr_ 11 (.bool false) rfl y0 (fun W hW => ?_) ?_
        · (clear hW; go_simp)
        try simp only [Act.put, sA_, s0_, sS_]
        refine hc_ 12 rfl (fun K hK => ?_)
        obtain ⟨⟨m0, m1, m2, m3⟩, ⟨l0, l1, l2, l3⟩, hlc⟩ := cells4 HRB.out
        go_simp
        have y1 := y0.trans HNEW.out.frm fun q hq => .inl hq
        clear m0 m1 m2 m3 l0 l1 l2 l3 hlc
        refine hK.out _ _ y1 (fun hH => ?_)
        clear hK K y0 hH
        have y0 := y1
        clear y1
        try simp only [Act.put, sA_, s0_, sS_]
        refine hr_ 13 (.bool false) rfl y0 (fun W hW => ?_) ?_
        · (clear hW; go_simp)
        try simp only [Act.put, sA_, s0_, sS_]
        refine wpAnyH_done (by kernel_rfl) ?_ _
        clear y0
        go_wp2
        exact r6_ret (q := QQ) (ok := false) rfl rfl HRB.out HXWB.out (HSB.out.keep fun q hq hl => ⟨⟨by have h1 := HB67.out; have h2 := HLR.out; omega, hl⟩, rfl⟩) (.inr ⟨rfl, HNO.out⟩)
      skip
      obtain ⟨⟨m0, m1, m2, m3⟩, ⟨l0, l1, l2, l3⟩, hlc⟩ := cells4 HRB.out
      go_simp
      have y1 := y0.trans HNEW.out.frm fun q hq => .inl hq
      clear m0 m1 m2 m3 l0 l1 l2 l3 hlc
      refine hK.out _ _ y1 (fun hH => ?_)
      clear hK K y0 hH
      have y0 := y1
      clear y1
      try simp only [Act.put, sA_, s0_, sS_]
      refine hc_ 7 rfl (fun K hK => ?_)
      refine wp_exec1 (by rfl) (v := .string ⟨fb.toArray⟩) (exec_convert rfl (conv_str (HFB.out.keep (G := fun _ => True) fun q hq hl => ⟨trivial, HNEW.out.frm.block q hl (by show ¬ q = _; have := HZB.out; omega)⟩))) ?_
      have y1 := y0
      refine hK.out _ _ y1 (fun hH => ?_)
      clear hK K y0 hH
      have y0 := y1
      clear y1
      try simp only [Act.put, sA_, s0_, sS_]
      refine hr_ 10 (.bool false) rfl y0 (fun W hW => ?_) ?_
      · (clear hW; go_simp)
      try simp only [Act.put, sA_, s0_, sS_]
      refine hr_ 11 (.bool false) rfl y0 (fun W hW => ?_) ?_
      · (clear hW; go_simp)
      try simp only [Act.put, sA_, s0_, sS_]
      refine hr_ 13 (.bool false) rfl y0 (fun W hW => ?_) ?_
      · (clear hW; go_simp)
      try simp only [Act.put, sA_, s0_, sS_]
      refine wpAnyH_done (by kernel_rfl) ?_ _
      clear y0
      go_wp2
      exact r6_ret (q := QQ) (ok := false) rfl rfl HRB.out HXWB.out (HSB.out.keep fun q hq hl => ⟨⟨by have h1 := HB67.out; have h2 := HLR.out; omega, hl⟩, rfl⟩) (.inr ⟨rfl, HNO.out⟩)
    · have HCZ := hid hcz
      rw [hcz] at HCK
      clear hcz
      refine hc_ 2 rfl (fun K hK => ?_)
      go_simp
      go_at_call 13
      refine Calls.mono (HCK.out _ y0) ?_
      rintro e wa ⟨rfl, hxa⟩
      have y1 := y0.then_ext hxa
      have HXA := hid (HXD.out.trans' hxa)
      clear hxa HCK
      refine hK.out _ _ y1 (fun hH => ?_)
      clear hK K y0 hH
      have y0 := y1
      clear y1
      try simp only [Act.put, sA_, s0_, sS_]
      refine hr_ 3 (.bool false) rfl y0 (fun W hW => ?_) ?_
      · (clear hW; go_simp)
      try simp only [Act.put, sA_, s0_, sS_]
      refine hr_ 4 (.bool false) rfl y0 (fun W hW => ?_) ?_
      · (clear hW; go_simp)
      try simp only [Act.put, sA_, s0_, sS_]
      refine hs_ 5 rfl y0 ?_
      try simp only [Act.put, sA_, s0_, sS_]
      refine hs_ 6 rfl y0 ?_
      try simp only [Act.put, sA_, s0_, sS_]
      refine hs_ 7 rfl y0 ?_
      try simp only [Act.put, sA_, s0_, sS_]
      refine hs_ 8 rfl y0 ?_
      try simp only [Act.put, sA_, s0_, sS_]
      refine hs_ 9 rfl y0 ?_
      try simp only [Act.put, sA_, s0_, sS_]
      refine hs_ 10 rfl y0 ?_
      try simp only [Act.put, sA_, s0_, sS_]
      refine hr_ 11 (.bool false) rfl y0 (fun W hW => ?_) ?_
      · (clear hW; go_simp)
      try simp only [Act.put, sA_, s0_, sS_]
      have HRA := hid ((HXA.out.block w.heap.size (Array.getElem?_eq_some_iff.1 HRZ.out).1).trans HRZ.out)
      have HNEW := hid (four_set2 HRA.out (.int .i64 (n1 : Int)) (.int .i64 (n2 : Int)) (.slice va k vc) (.slice xa dd.length xc))
      refine hc_ 12 rfl (fun K hK => ?_)
      obtain ⟨⟨m0, m1, m2, m3⟩, ⟨l0, l1, l2, l3⟩, hlc⟩ := cells4 HRA.out
      go_simp
      have y1 := y0.trans HNEW.out.frm fun q hq => .inl hq
      clear m0 m1 m2 m3 l0 l1 l2 l3 hlc
      refine hK.out _ _ y1 (fun hH => ?_)
      clear hK K y0 hH
      have y0 := y1
      clear y1
      try simp only [Act.put, sA_, s0_, sS_]
      refine hr_ 13 (.bool false) rfl y0 (fun W hW => ?_) ?_
      · (clear hW; go_simp)
      try simp only [Act.put, sA_, s0_, sS_]
      refine wpAnyH_done (by kernel_rfl) ?_ _
      clear y0
      go_wp2
      exact r6_ret (q := QQ) (ok := false) rfl rfl HRA.out (HXZ.out.trans' HXA.out) ((HSN.out.below HXA.out).keep fun q hq hl => ⟨⟨by have h1 := HB67.out; have h2 := HLR.out; omega, hl⟩, rfl⟩) (.inr ⟨rfl, fun s hs hf => by have h1 := HSAME.out s hs hf; rw [h1, HCZ.out] at hs; cases hs⟩)
    have HCZ := hid hcz
    rw [hcz] at HCK
    clear hcz
    refine hc_ 2 rfl (fun K hK => ?_)
    go_simp
    go_at_call 13
    refine Calls.mono (HCK.out _ y0) ?_
    rintro e wa ⟨rfl, hxa⟩
    have y1 := y0.then_ext hxa
    have HXA := hid (HXD.out.trans' hxa)
    clear hxa HCK
    refine hK.out _ _ y1 (fun hH => ?_)
    clear hK K y0 hH
    have y0 := y1
    clear y1
    try simp only [Act.put, sA_, s0_, sS_]
    refine hr_ 3 (.bool false) rfl y0 (fun W hW => ?_) ?_
    · (clear hW; go_simp)
    try simp only [Act.put, sA_, s0_, sS_]
    refine hr_ 4 (.bool false) rfl y0 (fun W hW => ?_) ?_
    · (clear hW; go_simp)
    try simp only [Act.put, sA_, s0_, sS_]
    refine hs_ 5 rfl y0 ?_
    try simp only [Act.put, sA_, s0_, sS_]
    refine hs_ 6 rfl y0 ?_
    try simp only [Act.put, sA_, s0_, sS_]
    refine hs_ 7 rfl y0 ?_
    try simp only [Act.put, sA_, s0_, sS_]
    refine hs_ 8 rfl y0 ?_
    try simp only [Act.put, sA_, s0_, sS_]
    refine hs_ 9 rfl y0 ?_
    try simp only [Act.put, sA_, s0_, sS_]
    refine hs_ 10 rfl y0 ?_
    try simp only [Act.put, sA_, s0_, sS_]
    refine hr_ 11 (.bool false) rfl y0 (fun W hW => ?_) ?_
    · (clear hW; go_simp)
    try simp only [Act.put, sA_, s0_, sS_]
    have HRA := hid ((HXA.out.block w.heap.size (Array.getElem?_eq_some_iff.1 HRZ.out).1).trans HRZ.out)
    have HNEW := hid (four_set2 HRA.out (.int .i64 (n1 : Int)) (.int .i64 (n2 : Int)) (.slice va k vc) (.slice xa dd.length xc))
    refine hc_ 12 rfl (fun K hK => ?_)
    obtain ⟨⟨m0, m1, m2, m3⟩, ⟨l0, l1, l2, l3⟩, hlc⟩ := cells4 HRA.out
    go_simp
    have y1 := y0.trans HNEW.out.frm fun q hq => .inl hq
    clear m0 m1 m2 m3 l0 l1 l2 l3 hlc
    refine hK.out _ _ y1 (fun hH => ?_)
    clear hK K y0 hH
    have y0 := y1
    clear y1
    try simp only [Act.put, sA_, s0_, sS_]
    refine hr_ 13 (.bool false) rfl y0 (fun W hW => ?_) ?_
    · (clear hW; go_simp)
    try simp only [Act.put, sA_, s0_, sS_]
    refine wpAnyH_done (by kernel_rfl) ?_ _
    clear y0
    go_wp2
    exact r6_ret (q := QQ) (ok := false) rfl rfl HRA.out (HXZ.out.trans' HXA.out) ((HSN.out.below HXA.out).keep fun q hq hl => ⟨⟨by have h1 := HB67.out; have h2 := HLR.out; omega, hl⟩, rfl⟩) (.inr ⟨rfl, fun s hs hf => by have h1 := HSAME.out s hs hf; rw [h1, HCZ.out] at hs; cases hs⟩)
end Go.Proofs.YtjapeaoebjmpnaaGreatDoor
