/- The walks of four and Record. -/
import Derived.Test.YtikjckdoldiddaaGreatDoorC05
import Derived.BigQuiet
import Derived.Test.YtikjckdoldiddaaGreatDoorC04
import Derived.ChangeKeysEq
namespace Go.Proofs.YtikjckdoldiddaaGreatDoor
open Go.RowKit Go.Maps
set_option linter.unusedVariables false
set_option linter.unusedSimpArgs false
attribute [local go_sem] bmax2 bmin2 bmax_two bmin_two

/-- Four bytes as a value. -/
def fourV (c : Nat) : Value := .agg #[.int .u8 ((UInt8.ofNat (c / 16777216)).toNat : Int), .int .u8 ((UInt8.ofNat (c / 65536 % 256)).toNat : Int), .int .u8 ((UInt8.ofNat (c / 256 % 256)).toNat : Int), .int .u8 ((UInt8.ofNat (c % 256)).toNat : Int)]

set_option maxHeartbeats 1000000 in
theorem four_any {w : World} {c : Nat} (hc : c < 4294967296) :
    Calls Tryz.prog 153 #[.int .u32 (c : Int)] w (fun e w' => e = .returned (fourV c) ∧ Ext w w') := by
  have h0 : ((UInt8.ofNat (c / 16777216)).toNat : Int) = (c : Int) / 16777216 := by rw [UInt8.toNat_ofNat']; omega
  have h1 : ((UInt8.ofNat (c / 65536 % 256)).toNat : Int) = (c : Int) / 65536 % 256 := by rw [UInt8.toNat_ofNat']; omega
  have h2 : ((UInt8.ofNat (c / 256 % 256)).toNat : Int) = (c : Int) / 256 % 256 := by rw [UInt8.toNat_ofNat']; omega
  have h3 : ((UInt8.ofNat (c % 256)).toNat : Int) = (c : Int) % 256 := by rw [UInt8.toNat_ofNat']; omega
  unfold fourV
  rw [h0, h1, h2, h3]
  clear h0 h1 h2 h3
  go_enter Tryz.func153, Tryz.ntmps153
  go_wp2
  exact bodyPost_ret_by (results_cell_row rfl _ _ w.heap.size _ _ _ (.array 4 5) rfl (heap_alloc_new _ _) (by kernel_rfl) rfl (by kernel_rfl)) rfl ⟨rfl, ext_alloc _ _⟩

/-- One byte that was laid in a block of its own. -/
theorem by_one (w : World) (x : UInt8) (t : TypeId) : ByF (fun _ => True) (w.alloc (.cells #[.int .u8 (x.toNat : Int)] t)) (some ⟨w.heap.size, 0, none⟩) 1 1 [x] :=
  (by_block (S := [x]) (heap_alloc_new w _) rfl (Nat.le_refl _) (by unfold maxLen; simp)).more fun _ _ => trivial
theorem by_four (w : World) (x0 x1 x2 x3 : UInt8) (t : TypeId) : ByF (fun _ => True) (w.alloc (.cells #[.int .u8 (x0.toNat : Int), .int .u8 (x1.toNat : Int), .int .u8 (x2.toNat : Int), .int .u8 (x3.toNat : Int)] t)) (some ⟨w.heap.size, 0, none⟩) 4 4 [x0, x1, x2, x3] :=
  (by_block (S := [x0, x1, x2, x3]) (heap_alloc_new w _) rfl (Nat.le_refl _) (by unfold maxLen; simp)).more fun _ _ => trivial
theorem run_slice_all4 (w : World) (b : Nat) : (Instr.sliceAt 195 (.pointer (some ⟨b, 0, none⟩)) none none none).run Tryz.prog w = .ok (.slice (some ⟨b, 0, none⟩) 4 4) w := by
  have hal : Tryz.prog.arrayLen 195 = 4 := by kernel_rfl
  have hel : (sizeOf (Tryz.prog.elem 195)).run Tryz.prog w = .ok 1 w := by kernel_rfl
  rw [run_sliceAt_array_all w 195 ⟨b, 0, none⟩ (by kernel_rfl), hel, hal]
  rfl
/-- Two byte rows, three byte rows. -/
theorem bs_two {w : World} {a1 a2 : Option Addr} {n1 c1 n2 c2 : Nat} {d1 d2 : By} (h1 : ByF (fun _ => True) w a1 n1 c1 d1) (h2 : ByF (fun _ => True) w a2 n2 c2 d2) (t : TypeId) :
    BsF (fun _ => True) (w.alloc (.cells #[.slice a1 n1 c1, .slice a2 n2 c2] t)) (some ⟨w.heap.size, 0, none⟩) 2 2 [d1, d2] :=
  (bs_lit [(a1, n1, c1), (a2, n2, c2)] [d1, d2] rfl (by simp) (by
    intro k k1 k2
    match k with
    | 0 => exact h1
    | 1 => exact h2
    | k + 2 => simp at k1; omega) t).keep fun _ _ _ => ⟨trivial, rfl⟩
theorem bs_three {w : World} {a1 a2 a3 : Option Addr} {n1 c1 n2 c2 n3 c3 : Nat} {d1 d2 d3 : By} (h1 : ByF (fun _ => True) w a1 n1 c1 d1) (h2 : ByF (fun _ => True) w a2 n2 c2 d2) (h3 : ByF (fun _ => True) w a3 n3 c3 d3) (t : TypeId) :
    BsF (fun _ => True) (w.alloc (.cells #[.slice a1 n1 c1, .slice a2 n2 c2, .slice a3 n3 c3] t)) (some ⟨w.heap.size, 0, none⟩) 3 3 [d1, d2, d3] :=
  (bs_lit [(a1, n1, c1), (a2, n2, c2), (a3, n3, c3)] [d1, d2, d3] rfl (by simp) (by
    intro k k1 k2
    match k with
    | 0 => exact h1
    | 1 => exact h2
    | 2 => exact h3
    | k + 3 => simp at k1; omega) t).keep fun _ _ _ => ⟨trivial, rfl⟩
/-- One byte row. -/
theorem bs_one {w : World} {a1 : Option Addr} {n1 c1 : Nat} {d1 : By} (h1 : ByF (fun _ => True) w a1 n1 c1 d1) (t : TypeId) :
    BsF (fun _ => True) (w.alloc (.cells #[.slice a1 n1 c1] t)) (some ⟨w.heap.size, 0, none⟩) 1 1 [d1] :=
  (bs_lit [(a1, n1, c1)] [d1] rfl (by simp) (by
    intro k k1 k2
    match k with
    | 0 => exact h1
    | k + 1 => simp at k1) t).keep fun _ _ _ => ⟨trivial, rfl⟩
theorem OwnB.any {B : Nat} {w : World} {a : Option Addr} {n c m : Nat} {d : By} (h : OwnB B w (.slice a n c) m d) (hd : m ≤ 140737488351232) : ByF (fun _ => True) w a n c d := (h.by_ hd).more fun _ _ => trivial
theorem crc_lt (b : By) : crc b < 4294967296 := crcF_lt b (by omega)

set_option maxRecDepth 100000 in
set_option maxHeartbeats 1000000 in
theorem Record_any {F : Nat → Prop} {w : World} {a : Option Addr} {n c : Nat} {b : By} (hb : ByF F w a n c b) (hn : n ≤ 65536) :
    Calls Tryz.prog 120 #[.slice a n c] w (fun e w' => ∃ g n2 c2, e = .returned (.tuple #[.slice (some ⟨g, 0, none⟩) n2 c2, .int .i64 0]) ∧ OwnB w.heap.size w' (.slice (some ⟨g, 0, none⟩) n2 c2) n2 (recB b) ∧ Ext w w') := by
  have hnb := hb.1
  have HNB := hid hnb
  have HB := hid (hb.more (G := fun _ => True) fun _ _ => trivial)
  have HNum := hid (Number_any (by_one w 93 5) (by omega) (n : Int) ⟨by omega, by omega⟩)
  have HSL := hid run_slice_all4
  clear hb hnb
  go_enter Tryz.func120, Tryz.ntmps120
  go_wp2_with fail
  refine Calls.mono HNum.out ?_
  rintro e w1 ⟨g1, n1, c1, rfl, hv1, hx1⟩
  have hx01 : Ext w w1 := (ext_alloc _ _).trans' hx1
  have hn1 := hv1.1
  have hnS : [93] ++ numS (n : Int) = headB b := by
    unfold numS headB
    rw [show (max (n : Int) 0).toNat = b.length by have := HNB.out; omega]
    rfl
  rw [hnS] at hv1 hn1
  have hn1l : n1 ≤ 10 := by rw [hn1]; unfold headB; have := (numB_len b.length).2; simp; omega
  have HB1 := hid (hv1.any (by omega))
  have HX1 := hid hx01
  have hSum := Sum_any (bs_two HB1.out (HB.out.below hx01) 37)
  have hcl := crc_lt ([headB b, b] : List By).flatten
  obtain ⟨z, hz⟩ : ∃ z, z = crc ([headB b, b] : List By).flatten := ⟨_, rfl⟩
  rw [← hz] at hSum hcl
  have HZ := hid hz
  have HSum := hid hSum
  obtain ⟨x0, x1, x2, x3, hfb, hfv⟩ : ∃ x0 x1 x2 x3 : UInt8, fourB z = [x0, x1, x2, x3] ∧ fourV z = .agg #[.int .u8 (x0.toNat : Int), .int .u8 (x1.toNat : Int), .int .u8 (x2.toNat : Int), .int .u8 (x3.toNat : Int)] := ⟨_, _, _, _, rfl, rfl⟩
  have hFour := fun W => four_any (w := W) hcl
  rw [hfv] at hFour
  have HFour := hid hFour
  have HFB := hid hfb
  clear hz hSum hfb hfv hFour
  clear hv1 hx1 hn1 hnS HNum hcl hx01
  go_wp2_with fail
  refine Calls.mono HSum.out ?_
  rintro e w2 ⟨rfl, rfl⟩
  go_wp2_with fail
  refine Calls.mono (HFour.out _) ?_
  rintro e w2 ⟨rfl, hx2⟩
  have hx02 : Ext w w2 := HX1.out.trans' ((ext_alloc _ _).trans' hx2)
  have hx12 : Ext w1 w2 := (ext_alloc _ _).trans' hx2
  have HX2 := hid hx02
  have hal := ext_alloc w2 (.cells #[.int .u8 (x0.toNat : Int), .int .u8 (x1.toNat : Int), .int .u8 (x2.toNat : Int), .int .u8 (x3.toNat : Int)] 195)
  have hB3 := bs_three (HB1.out.below (hx12.trans' hal)) (HB.out.below (hx02.trans' hal)) (by_four w2 x0 x1 x2 x3 195) 37
  have hrec : ([headB b, b, [x0, x1, x2, x3]] : List By).flatten = recB b := by
    rw [← HFB.out, HZ.out]; unfold recB; simp
  have hJ := Join_any hB3 (by rw [hrec, recB_len]; have := (numB_len b.length).2; have := HNB.out; omega)
  rw [hrec] at hJ
  simp only [World.size_alloc] at hJ
  have HJ := hid hJ
  clear hx2 hal hB3 hrec hJ hx02 hx12 HB1
  go_wp2_with fail
  refine Calls.mono HJ.out ?_
  rintro e w3 ⟨g3, n3, c3, rfl, hv3, hx3⟩
  have HV3 := hid hv3
  clear hv3
  go_wp2
  go_ret2
  have hz := HX2.out.size
  exact ⟨_, _, _, rfl, HV3.out.base (B' := w.heap.size) (by simp; omega), HX2.out.trans' ((ext_alloc _ _).trans' ((ext_alloc _ _).trans' hx3))⟩
end Go.Proofs.YtikjckdoldiddaaGreatDoor

/- The walks of a scan's small calls. -/
namespace Go.Proofs.YtikjckdoldiddaaGreatDoor
open Go.RowKit Go.Maps
set_option linter.unusedVariables false
set_option linter.unusedSimpArgs false
attribute [local go_sem] bmax2 bmin2 bmax_two bmin_two

/-- A scan. -/
structure Sc where
  b : By
  at_ : Nat
  err : Int
/-- A scan as it lies in memory: all of it in D. -/
def ScAt (D : Nat → Prop) (w : World) (g : Nat) (s : Sc) : Prop :=
  ∃ g1 a n c, w.heap[g]? = some (.cells #[.pointer (some ⟨g1, 0, none⟩), .int .i64 s.err] 206 (0, 0)) ∧
    w.heap[g1]? = some (.cells #[.slice a n c, .int .i64 s.at_] 208 (0, 0)) ∧
    ByF (fun q => D q ∧ q ≠ g ∧ q ≠ g1) w a n c s.b ∧ s.at_ ≤ n ∧ g ≠ g1 ∧ D g ∧ D g1
theorem ScAt.keep {D : Nat → Prop} {w w' : World} {g : Nat} {s : Sc} (h : ScAt D w g s) (hk : ∀ q, D q → q < w.heap.size → w'.heap[q]? = w.heap[q]?) : ScAt D w' g s := by
  obtain ⟨g1, a, n, c, h1, h2, h3, h4, h5, h6, h7⟩ := h
  have l1 : g < w.heap.size := (Array.getElem?_eq_some_iff.1 h1).1
  have l2 : g1 < w.heap.size := (Array.getElem?_eq_some_iff.1 h2).1
  exact ⟨g1, a, n, c, (hk g h6 l1).trans h1, (hk g1 h7 l2).trans h2, h3.keep fun q hq hl => ⟨hq, hk q hq.1 hl⟩, h4, h5, h6, h7⟩
theorem ScAt.ext {D : Nat → Prop} {w w' : World} {g : Nat} {s : Sc} (h : ScAt D w g s) (hx : Ext w w') : ScAt D w' g s := h.keep fun q _ hl => hx.block q hl

theorem made_any {w : World} {g : Nat} {p : Addr} {z : Int} (h : w.heap[g]? = some (.cells #[.pointer (some p), .int .i64 z] 206 (0, 0))) :
    Calls Tryz.prog 164 #[.pointer (some ⟨g, 0, none⟩)] w (fun e w' => e = .returned (.bool true) ∧ w' = w) := by
  have c0 : w.cell? ⟨g, 0, none⟩ = some (.pointer (some p)) := by simp [World.cell?, h]
  clear h
  go_enter Tryz.func164, Tryz.ntmps164
  go_wp2
  go_ret
  exact ⟨rfl, rfl⟩

theorem rest_any {D : Nat → Prop} {w : World} {g g1 : Nat} {s : Sc} {a : Option Addr} {n c : Nat} (h1 : w.heap[g1]? = some (.cells #[.slice a n c, .int .i64 s.at_] 208 (0, 0))) {F : Nat → Prop} (hb : ByF F w a n c s.b) (hat : s.at_ ≤ n) :
    Calls Tryz.prog 165 #[.pointer (some ⟨g1, 0, none⟩)] w (fun e w' => ∃ a' m k, e = .returned (.slice a' m k) ∧ ByF F w a' m k (s.b.drop s.at_) ∧ ∃ q, w' = w.drewN q) := by
  have c0 : w.cell? ⟨g1, 0, none⟩ = some (.slice a n c) := by simp [World.cell?, h1]
  have c1 : w.cell? ⟨g1, 1, none⟩ = some (.int .i64 s.at_) := by simp [World.cell?, h1]
  obtain ⟨a', m, k, r1, r2, hcut⟩ := cut_l hb (s.at_ : Int) (by omega) (by omega)
  rw [Int.toNat_natCast] at hcut
  have HC := hid hcut
  have hn := hb.1
  clear h1 hb hcut hn
  go_enter Tryz.func165, Tryz.ntmps165
  go_wp2
  refine wp_region_quiet_lit (by kernel_rfl) (by kernel_rfl) ?_
  repeat (any_goals (first | go_big_quiet_step (fail) | quiet_step (fail)))
  refine wpQuiet_nil ?_
  intro wq hwq
  obtain ⟨nq, hwq⟩ := hwq
  subst hwq
  go_wp2
  go_ret
  exact ⟨_, _, _, rfl, HC.out, _, rfl⟩

theorem Err_any {D : Nat → Prop} {w : World} {g : Nat} {s : Sc} (h : ScAt D w g s) :
    Calls Tryz.prog 167 #[.pointer (some ⟨g, 0, none⟩)] w (fun e w' => e = .returned (.int .i64 s.err) ∧ w' = w) := by
  obtain ⟨g1, a, n, c, h1, h2, h3, h4, h5, h6, h7⟩ := h
  have c1 : w.cell? ⟨g, 1, none⟩ = some (.int .i64 s.err) := by simp [World.cell?, h1]
  have HM := hid (made_any h1)
  clear h1 h2 h3 h4 h5 h6 h7
  go_enter Tryz.func167, Tryz.ntmps167
  go_wp2_with (go_at_call 164; refine Calls.mono HM.out ?_; rintro e w1 ⟨rfl, rfl⟩)
  go_ret
  exact ⟨rfl, rfl⟩
end Go.Proofs.YtikjckdoldiddaaGreatDoor

/- The walks of a scan's fail, Left, End, Over and Number. -/
namespace Go.Proofs.YtikjckdoldiddaaGreatDoor
open Go.RowKit Go.Maps
set_option linter.unusedVariables false
set_option linter.unusedSimpArgs false
attribute [local go_sem] bmax2 bmin2 bmax_two bmin_two

def Sc.failS (s : Sc) (e : Int) : Sc := if s.err = 0 then { s with err := e } else s
def Sc.numV (s : Sc) (r : Nat × Nat × Int) : Nat × Sc := if r.2.2 ≠ 0 then (0, { s with err := r.2.2 }) else (r.1, { s with at_ := s.at_ + r.2.1 })
def Sc.num (s : Sc) : Nat × Sc := if s.err ≠ 0 then (0, s) else s.numV (readB (s.b.drop s.at_))
def Sc.end_ (s : Sc) : Int × Sc := if s.err = 0 ∧ s.at_ < s.b.length then (3, { s with err := 3 }) else (s.err, s)

theorem frm_set {D : Nat → Prop} {w : World} {p : Addr} (h : D p.block) (v : Value) : Frm D w (w.setCell p v) :=
  ⟨rfl, rfl, rfl, by simp [World.setCell], fun k hk hn => heap_setCell_other w p k v (by rintro rfl; exact hn h)⟩
theorem ScAt.err_ {D : Nat → Prop} {w : World} {g : Nat} {s : Sc} (h : ScAt D w g s) (z : Int) : ScAt D (w.setCell ⟨g, 1, none⟩ (.int .i64 z)) g { s with err := z } := by
  obtain ⟨g1, a, n, c, h1, h2, h3, h4, h5, h6, h7⟩ := h
  exact ⟨g1, a, n, c, heap_setCell_same w g 1 _ _ _ h1, (heap_setCell_other w _ g1 _ (by show g1 ≠ g; exact fun e => h5 e.symm)).trans h2, h3.keep fun q hq hl => ⟨hq, heap_setCell_other w _ q _ hq.2.1⟩, h4, h5, h6, h7⟩
theorem ScAt.err_lt {D : Nat → Prop} {w : World} {g : Nat} {s : Sc} (h : ScAt D w g s) : (∃ p, w.cell? ⟨g, 0, none⟩ = some (.pointer (some p))) ∧ w.cell? ⟨g, 1, none⟩ = some (.int .i64 s.err) ∧ w.frozen? ⟨g, 1, none⟩ = false ∧ g < w.heap.size := by
  obtain ⟨g1, a, n, c, h1, h2, h3, h4, h5, h6, h7⟩ := h
  exact ⟨⟨_, by simp [World.cell?, h1]; rfl⟩, by simp [World.cell?, h1], by simp [World.frozen?, h1], (Array.getElem?_eq_some_iff.1 h1).1⟩

theorem fail_any {D : Nat → Prop} {w : World} {g : Nat} {s : Sc} (h : ScAt D w g s) (z : Int) :
    Calls Tryz.prog 166 #[.pointer (some ⟨g, 0, none⟩), .int .i64 z] w (fun e w' => e = .returned (.int .i64 0) ∧ ScAt D w' g (s.failS z) ∧ Frm D w w') := by
  obtain ⟨-, c1, f1, hl⟩ := h.err_lt
  have HS := hid h
  obtain ⟨g1, a, n, c, h1, h2, h3, h4, h5, h6, h7⟩ := h
  have HM := hid (made_any h1)
  clear h1 h2 h3 h4 h5 h7
  by_cases he : s.err = 0
  · have hf : s.failS z = { s with err := z } := by unfold Sc.failS; rw [if_pos he]
    rw [hf]
    clear hf
    rw [he] at c1
    clear he
    go_enter Tryz.func166, Tryz.ntmps166
    go_wp2_with (go_at_call 164; refine Calls.mono HM.out ?_; rintro e w1 ⟨rfl, rfl⟩)
    go_ret
    exact ⟨rfl, HS.out.err_ z, frm_set h6 _⟩
  have hf : s.failS z = s := by unfold Sc.failS; rw [if_neg he]
  rw [hf]
  clear hf
  have hb : (s.err == 0) = false := by simpa using he
  clear he
  obtain ⟨ez, hez⟩ : ∃ ez, ez = s.err := ⟨_, rfl⟩
  rw [← hez] at c1 hb
  clear hez
  go_enter Tryz.func166, Tryz.ntmps166
  go_wp2_with (go_at_call 164; refine Calls.mono HM.out ?_; rintro e w1 ⟨rfl, rfl⟩)
  go_ret
  exact ⟨rfl, HS.out, Frm.refl _ _⟩

theorem Over_any {F : Nat → Prop} {w : World} {a : Option Addr} {n c : Nat} {b : By} (hb : ByF F w a n c b) (hn : n ≤ 1000000000000) :
    Calls Tryz.prog 134 #[.slice a n c] w (fun e w' => ∃ g, e = .returned (.pointer (some ⟨g, 0, none⟩)) ∧ w.heap.size ≤ g ∧ ScAt (fun q => w.heap.size ≤ q ∧ q < w'.heap.size) w' g ⟨b, 0, 0⟩ ∧ Ext w w') := by
  have hnb := hb.1
  have hJ := Join_any (bs_one (hb.more (G := fun _ => True) fun _ _ => trivial) 37) (by simp; omega)
  have hfl : ([b] : List By).flatten = b := by simp
  rw [hfl] at hJ
  have HJ := hid hJ
  have HNB := hid hnb
  clear hb hnb hJ hfl
  go_enter Tryz.func134, Tryz.ntmps134
  go_wp2_with fail
  refine Calls.mono HJ.out ?_
  rintro e w1 ⟨g1, n1, c1, rfl, hv1, hx1⟩
  have HV := hid hv1
  have HX := hid hx1
  have hn1 : n1 ≤ 140737488351232 := by
    have := hv1.1
    have := HNB.out
    omega
  clear hv1 hx1
  go_wp2
  go_ret
  have hx := HX.out
  have hz : w.heap.size + 1 ≤ w1.heap.size := by have := hx.size; simpa using this
  have hby := (HV.out.by_ hn1).lt
  have hA1 := ext_alloc w1 (.cells #[.slice (some ⟨g1, 0, none⟩) n1 c1, .int .i64 0] 208)
  have hA2 := ext_alloc (w1.alloc (.cells #[.slice (some ⟨g1, 0, none⟩) n1 c1, .int .i64 0] 208)) (.cells #[.pointer (some ⟨w1.heap.size, 0, none⟩), .int .i64 0] 206)
  refine ⟨w1.heap.size + 1, rfl, by omega, ⟨w1.heap.size, some ⟨g1, 0, none⟩, n1, c1, ?_, ?_, ?_, Nat.zero_le _, by omega, by simp only [World.size_alloc]; omega, by simp only [World.size_alloc]; omega⟩, ((ext_alloc _ _).trans' hx).trans' (hA1.trans' hA2)⟩
  · have := heap_alloc_new (w1.alloc (.cells #[.slice (some ⟨g1, 0, none⟩) n1 c1, .int .i64 0] 208)) (.cells #[.pointer (some ⟨w1.heap.size, 0, none⟩), .int .i64 0] 206)
    rw [World.size_alloc] at this
    exact this
  · exact heap_alloc2_old _ _ _
  exact (hby.below (hA1.trans' hA2)).more fun q hq => by
    simp only [World.size_alloc] at hq ⊢
    omega

theorem Left_any {D : Nat → Prop} {w : World} {g : Nat} {s : Sc} (h : ScAt D w g s) :
    Calls Tryz.prog 168 #[.pointer (some ⟨g, 0, none⟩)] w (fun e w' => e = .returned (.int .i64 ((s.b.length - s.at_ : Nat) : Int)) ∧ ∃ q, w' = w.drewN q) := by
  obtain ⟨g1, a, n, c, h1, h2, h3, h4, h5, h6, h7⟩ := h
  have c0 : w.cell? ⟨g, 0, none⟩ = some (.pointer (some ⟨g1, 0, none⟩)) := by simp [World.cell?, h1]
  have HM := hid (made_any h1)
  have HR := hid (rest_any (D := D) (g := g) h2 h3 h4)
  clear h1 h2 h3 h4 h5 h6 h7
  go_enter Tryz.func168, Tryz.ntmps168
  go_wp2_with (first
    | (go_at_call 164; refine Calls.mono HM.out ?_; rintro e w1 ⟨rfl, rfl⟩)
    | (go_at_call 165; refine Calls.mono HR.out ?_; rintro e w1 ⟨a1, m1, k1, rfl, hby, q, rfl⟩; have HBY := hid hby.1; clear hby))
  go_ret
  refine ⟨?_, _, rfl⟩
  rw [← List.length_drop, ← HBY.out]
  rfl

theorem End_any {D : Nat → Prop} {w : World} {g : Nat} {s : Sc} (h : ScAt D w g s) :
    Calls Tryz.prog 136 #[.pointer (some ⟨g, 0, none⟩)] w (fun e w' => e = .returned (.int .i64 s.end_.1) ∧ Frm D w w') := by
  have HE := hid (Err_any h)
  have HL := hid (Left_any h)
  have HF := hid (fun q => fail_any (h.ext (ext_drewN w q)) 3)
  have HE3 := hid (fun q => Err_any (h.ext (ext_drewN w q)))
  unfold Sc.end_
  clear h
  by_cases he : s.err = 0
  · rw [he] at HE HE3
    obtain ⟨ln, hln⟩ : ∃ ln, ln = s.b.length - s.at_ := ⟨_, rfl⟩
    rw [← hln] at HL
    by_cases hl : 0 < ln
    · rw [if_pos ⟨he, by omega⟩]
      have HER := hid he
      clear he hln
      have hE2 := hid (fun (D : Nat → Prop) W (h : ScAt D W g (s.failS 3)) => Err_any h)
      have e3 : (s.failS 3).err = 3 := by unfold Sc.failS; rw [if_pos HER.out]
      rw [e3] at hE2
      clear e3
      dsimp only
      go_enter Tryz.func136, Tryz.ntmps136
      go_wp2_with fail
      refine Calls.mono HE.out ?_
      rintro e w1 ⟨rfl, rfl⟩
      go_wp2_with fail
      refine Calls.mono HL.out ?_
      rintro e w1 ⟨rfl, q, rfl⟩
      go_wp2_with fail
      refine Calls.mono (HF.out q) ?_
      rintro e w2 ⟨rfl, hs2, hf2⟩
      have HF2 := hid ((Frm.of_ext (ext_drewN w1 q) D).trans hf2 fun q hq => .inl hq)
      have HS2 := hid hs2
      clear hs2 hf2
      go_wp2_with fail
      refine Calls.mono (hE2.out _ _ HS2.out) ?_
      rintro e w3 ⟨rfl, rfl⟩
      go_wp2
      go_ret
      exact ⟨rfl, HF2.out⟩
    rw [if_neg (by omega)]
    have HER := hid he
    clear he hln
    dsimp only
    rw [HER.out]
    go_enter Tryz.func136, Tryz.ntmps136
    go_wp2_with fail
    refine Calls.mono HE.out ?_
    rintro e w1 ⟨rfl, rfl⟩
    go_wp2_with fail
    refine Calls.mono HL.out ?_
    rintro e w1 ⟨rfl, q, rfl⟩
    go_wp2_with fail
    refine Calls.mono (HE3.out q) ?_
    rintro e w3 ⟨rfl, rfl⟩
    go_wp2
    go_ret
    exact ⟨rfl, Frm.of_ext (ext_drewN w1 q) D⟩
  rw [if_neg (fun e => he e.1)]
  have hb : (s.err == 0) = false := by simpa using he
  clear he HE3 HF HL
  dsimp only
  obtain ⟨ez, hez⟩ : ∃ ez, ez = s.err := ⟨_, rfl⟩
  rw [← hez] at HE hb ⊢
  clear hez
  go_enter Tryz.func136, Tryz.ntmps136
  go_wp2_with fail
  refine Calls.mono HE.out ?_
  rintro e w1 ⟨rfl, rfl⟩
  go_wp2_with fail
  refine Calls.mono HE.out ?_
  rintro e w1 ⟨rfl, rfl⟩
  go_wp2
  go_ret
  exact ⟨rfl, Frm.refl _ _⟩

theorem sc_step {D : Nat → Prop} {w : World} {g g1 n c : Nat} {a : Option Addr} {s : Sc} (h1 : w.heap[g]? = some (.cells #[.pointer (some ⟨g1, 0, none⟩), .int .i64 s.err] 206 (0, 0)))
    (h2 : w.heap[g1]? = some (.cells #[.slice a n c, .int .i64 s.at_] 208 (0, 0))) (h3 : ByF (fun q => D q ∧ q ≠ g ∧ q ≠ g1) w a n c s.b) (h5 : g ≠ g1) (h6 : D g) (h7 : D g1) (m : Nat) (hm : m ≤ n) (v : Value) (hv : v = .int .i64 (m : Int)) :
    ScAt D (w.setCell ⟨g1, 1, none⟩ v) g { s with at_ := m } := by
  subst hv
  exact ⟨g1, a, n, c, (heap_setCell_other w _ g _ (by show g ≠ g1; exact h5)).trans h1, heap_setCell_same w g1 1 _ _ _ h2, h3.keep fun q hq hl => ⟨hq, heap_setCell_other w _ q _ hq.2.2⟩, hm, h5, h6, h7⟩
theorem rdB_step {i acc : Nat} {x : UInt8} {r : By} (h1 : ¬ (i = 0 ∧ x = 128)) (h2 : i ≠ 9) : rdB i acc (x :: r) = if x < 128 then (acc * 128 + x.toNat % 128, i + 1, 0) else rdB (i + 1) (acc * 128 + x.toNat % 128) r := by
  show (if _ then _ else if _ then _ else if _ then _ else _) = _
  rw [if_neg h1, if_neg h2]

set_option maxRecDepth 100000 in
set_option maxHeartbeats 2000000 in
theorem SNumber_any {D : Nat → Prop} {w : World} {g : Nat} {s : Sc} (h : ScAt D w g s) :
    Calls Tryz.prog 135 #[.pointer (some ⟨g, 0, none⟩)] w (fun e w' => e = .returned (.int .i64 (s.num.1 : Int)) ∧ ScAt D w' g s.num.2 ∧ Frm D w w') := by
  obtain ⟨-, c1, f1, hgl⟩ := h.err_lt
  have HS := hid h
  obtain ⟨g1, a, n, c, h1, h2, h3, h4, h5, h6, h7⟩ := h
  have HM := hid (made_any h1)
  by_cases he : s.err = 0
  · have hE0 := he
    unfold Sc.num
    rw [if_neg (by simp [he])]
    rw [he] at c1
    have c0 : w.cell? ⟨g, 0, none⟩ = some (.pointer (some ⟨g1, 0, none⟩)) := by simp [World.cell?, h1]
    have c2 : w.cell? ⟨g1, 1, none⟩ = some (.int .i64 s.at_) := by simp [World.cell?, h2]
    have f2 : w.frozen? ⟨g1, 1, none⟩ = false := by simp [World.frozen?, h2]
    have hg1l : g1 < w.heap.size := (Array.getElem?_eq_some_iff.1 h2).1
    have hat : s.at_ ≤ 140737488351232 := by have := h3.2.2.1.2; omega
    have HH1 := hid h1
    have HH2 := hid h2
    have HH3 := hid h3
    have HH4 := hid (show n = s.b.length from h3.1)
    have HR := hid (rest_any (D := D) (g := g) h2 h3 h4)
    obtain ⟨R, hR⟩ : ∃ R, R = s.b.drop s.at_ := ⟨_, rfl⟩
    rw [← hR] at HR ⊢
    obtain ⟨rv, hrv⟩ : ∃ rv, rv = s.numV (readB R) := ⟨_, rfl⟩
    rw [← hrv]
    have hF : ∀ q z, readB R = (0, 0, z) → z ≠ 0 → ∀ (e : Ending) (w' : World), (e = .returned (.int .i64 0) ∧ ScAt D w' g (s.failS z) ∧ Frm D (w.drewN q) w') → rv.1 = 0 ∧ e = .returned (.int .i64 0) ∧ ScAt D w' g rv.2 ∧ Frm D w w' := by
      rintro q z hr hz e w' ⟨e1, e2, e3⟩
      unfold Sc.failS at e2
      rw [if_pos hE0] at e2
      have e4 : rv = (0, { s with err := z }) := by rw [hrv, hr]; unfold Sc.numV; rw [if_pos hz]
      rw [e4]
      exact ⟨rfl, e1, e2, (Frm.of_ext (ext_drewN w q) D).trans e3 fun q hq => .inl hq⟩
    have HF := hid hF
    have HFa := hid (fun q z => fail_any (HS.out.ext (ext_drewN w q)) z)
    have HRV := hid hrv
    have HRR := hid hR
    clear hF h1 h2 h3 h4 hR he hrv
    go_enter Tryz.func135, Tryz.ntmps135
    go_wp2_with fail
    refine Calls.mono HM.out ?_
    rintro e w1 ⟨rfl, rfl⟩
    go_wp2_with fail
    refine Calls.mono HR.out ?_
    rintro e w2 ⟨a2, m2, k2, rfl, hby, q, rfl⟩
    have HBY := hid hby
    have hm2 : m2 ≤ 140737488351232 := hby.2.2.1.2
    have HLN := hid hby.1
    clear hby
    go_wp2
    go_loop [3, 4, 5, 22, 27, 36] (fun x _ _ z _ _ => ∃ (i acc : Nat), i ≤ m2 ∧ i ≤ 9 ∧ acc < 128 ^ i ∧ z = .int .i64 (i : Int) ∧ x = .int .i64 (acc : Int) ∧ Hid (rdB i acc (R.drop i) = readB R)) (fun _ _ _ z _ _ => m2 - (intOf z).toNat)
    case atStart => exact ⟨0, 0, Nat.zero_le _, by omega, by simp, rfl, rfl, rfl⟩
    obtain ⟨i, acc, hi, hi9, hacc, rfl, rfl, HI⟩ := hrel
    by_cases hlt : i < m2
    · obtain ⟨b, o, rfl, -, hbl, hxl, q2⟩ := (HBY.out.below (ext_drewN w1 q)).at_ hlt
      have hd : R.drop i = R[i] :: R.drop (i + 1) := List.drop_eq_getElem_cons hxl
      rw [hd] at HI
      obtain ⟨x, hx⟩ : ∃ x, x = R[i] := ⟨_, rfl⟩
      rw [← hx] at HI q2
      obtain ⟨xn, hxn⟩ : ∃ xn, xn = x.toNat := ⟨_, rfl⟩
      have hxl : xn < 256 := hxn ▸ x.toNat_lt
      rw [← hxn] at q2
      have hx128 : x = 128 ↔ xn = 128 := by
        rw [hxn, ← UInt8.toNat_inj]
        exact Iff.rfl
      have hxlt : x < 128 ↔ xn < 128 := by
        rw [hxn, UInt8.lt_iff_toNat_lt]
        exact Iff.rfl
      clear hd hx
      have HX := hid hxn
      clear hxn
      by_cases hA : i = 0 ∧ xn = 128
      · obtain ⟨rfl, rfl⟩ := hA
        have hv : readB R = (0, 0, 10) := by
          rw [← HI.out]
          show (if _ then _ else _) = _
          rw [if_pos ⟨rfl, hx128.2 rfl⟩]
        have HH := hid (HF.out q 10 hv (by decide))
        clear hv hx128 hxlt
        rw [Nat.add_zero] at q2
        go_wp2_with fail
        refine Calls.mono (HFa.out q 10) ?_
        intro e w3 h3
        have HP := hid (HH.out e w3 h3)
        obtain ⟨rfl, -, -⟩ := h3
        go_wp2
        go_ret
        exact ⟨by rw [HP.out.1]; rfl, HP.out.2.2⟩
      by_cases hB : i = 9
      · subst hB
        have hv : readB R = (0, 0, 5) := by
          rw [← HI.out]
          show (if _ then _ else if _ then _ else _) = _
          rw [if_neg (by omega), if_pos rfl]
        have HH := hid (HF.out q 5 hv (by decide))
        clear hv hx128 hxlt
        go_wp2_with fail
        refine Calls.mono (HFa.out q 5) ?_
        intro e w3 h3
        have HP := hid (HH.out e w3 h3)
        obtain ⟨rfl, -, -⟩ := h3
        go_wp2
        go_ret
        exact ⟨by rw [HP.out.1]; rfl, HP.out.2.2⟩
      have hst := rdB_step (i := i) (acc := acc) (x := x) (r := R.drop (i + 1)) (by rw [hx128]; exact hA) hB
      rw [HI.out, ← HX.out] at hst
      obtain ⟨acc2, hacc2⟩ : ∃ acc2, acc2 = acc * 128 + xn % 128 := ⟨_, rfl⟩
      rw [← hacc2] at hst
      have hpow : acc2 < 128 ^ (i + 1) := by
        rw [Nat.pow_succ]
        have : acc + 1 ≤ 128 ^ i := hacc
        have := Nat.mul_le_mul_right 128 this
        omega
      have h63 : (128 : Nat) ^ (i + 1) ≤ 128 ^ 9 := Nat.pow_le_pow_right (by omega) (by omega)
      have e63 : (128 : Nat) ^ 9 = 9223372036854775808 := by decide
      have hl63 : acc2 < 9223372036854775808 := by omega
      have hand : bits .and .u8 (xn : Int) 127 = (xn : Int) % 128 := by
        have := u8_and_nat xn 127 (by omega) (by omega)
        rw [nat_mask7] at this
        simpa using this
      have hor : bits .or .i64 ((acc : Int) * 128) ((xn : Int) % 128) = (acc2 : Int) := by
        rw [bits_join .i64 63 (by decide) (by
          intro n h0 h1
          rw [IntKind.wrap_i64]
          omega) 7 _ _ (by omega) (by omega) (by omega) (by omega) (by omega) (by omega)]
        omega
      have hacc3 : acc * 128 < 9223372036854775808 := by omega
      clear h63 e63
      by_cases hC : xn < 128
      · rw [if_pos (hxlt.2 hC)] at hst
        have HST := hid hst
        have HHA := hid hacc
        have HHP := hid hpow
        have HLT := hid hlt
        clear hst hx128 hxlt hacc2 hpow hacc
        rcases Nat.eq_zero_or_pos i with hi0 | hi0
        · subst hi0
          have hne : xn ≠ 128 := by omega
          rw [Nat.add_zero] at q2
          clear hA
          go_wp2
          go_ret
          have hrv : rv = (acc2, { s with at_ := s.at_ + (0 + 1) }) := by
            rw [HRV.out, HST.out]
            unfold Sc.numV
            rw [if_neg (by simp)]
          have hmn : s.at_ + (0 + 1) ≤ n := by
            have e1 := HLN.out
            rw [HRR.out, List.length_drop] at e1
            have := HH4.out
            have := HLT.out
            omega
          have hat2 : (w1.drewN q).heap = w1.heap := rfl
          rw [hrv]
          refine ⟨rfl, ?_, (Frm.of_ext (ext_drewN w1 q) D).trans (frm_set (D := D) h7 _) fun q hq => .inl hq⟩
          exact sc_step (s := s) (by rw [hat2]; exact HH1.out) (by rw [hat2]; exact HH2.out) (HH3.out.below (ext_drewN w1 q)) h5 h6 h7 (s.at_ + (0 + 1)) hmn _ (by simp; try omega)
        clear hA
        go_wp2
        go_ret
        have hrv : rv = (acc2, { s with at_ := s.at_ + (i + 1) }) := by
          rw [HRV.out, HST.out]
          unfold Sc.numV
          rw [if_neg (by simp)]
        have hmn : s.at_ + (i + 1) ≤ n := by
          have e1 := HLN.out
          rw [HRR.out, List.length_drop] at e1
          have := HH4.out
          have := HLT.out
          omega
        have hat2 : (w1.drewN q).heap = w1.heap := rfl
        rw [hrv]
        refine ⟨rfl, ?_, (Frm.of_ext (ext_drewN w1 q) D).trans (frm_set (D := D) h7 _) fun q hq => .inl hq⟩
        exact sc_step (s := s) (by rw [hat2]; exact HH1.out) (by rw [hat2]; exact HH2.out) (HH3.out.below (ext_drewN w1 q)) h5 h6 h7 (s.at_ + (i + 1)) hmn _ (by simp; try omega)
      rw [if_neg (fun h => hC (hxlt.1 h))] at hst
      have HST := hid hst.symm
      have HHP := hid hpow
      have HHA := hid hacc
      clear hst hx128 hxlt hacc2 hpow hacc
      rcases Nat.eq_zero_or_pos i with hi0 | hi0
      · subst hi0
        have hne : xn ≠ 128 := by omega
        rw [Nat.add_zero] at q2
        clear hA
        go_wp2
        refine ⟨⟨0 + 1, acc2, by omega, by omega, HHP.out, by go_num, rfl, HST.out⟩, ?_⟩
        simp [intOf]; omega
      clear hA
      go_wp2
      refine ⟨⟨i + 1, acc2, by omega, by omega, HHP.out, by go_num, rfl, HST.out⟩, ?_⟩
      simp [intOf]; omega
    obtain rfl : i = m2 := by omega
    have hv : readB R = (0, 0, 2) := by
      rw [← HI.out, List.drop_of_length_le (by rw [HLN.out]; exact Nat.le_refl _)]
      rfl
    have HH := hid (HF.out q 2 hv (by decide))
    have HHA := hid hacc
    clear hv hacc
    go_wp2_with fail
    refine Calls.mono (HFa.out q 2) ?_
    intro e w3 h3
    have HP := hid (HH.out e w3 h3)
    obtain ⟨rfl, -, -⟩ := h3
    go_wp2
    go_ret
    exact ⟨by rw [HP.out.1]; rfl, HP.out.2.2⟩
  unfold Sc.num
  rw [if_pos he]
  have hb : (s.err != 0) = true := by simpa using he
  clear he h1 h2 h3 h4 h5 h6 h7
  dsimp only
  obtain ⟨ez, hez⟩ : ∃ ez, ez = s.err := ⟨_, rfl⟩
  rw [← hez] at c1 hb
  clear hez
  go_enter Tryz.func135, Tryz.ntmps135
  go_wp2_with fail
  refine Calls.mono HM.out ?_
  rintro e w1 ⟨rfl, rfl⟩
  go_wp2
  go_ret
  exact ⟨rfl, HS.out, Frm.refl _ _⟩
end Go.Proofs.YtikjckdoldiddaaGreatDoor

/- Four bytes that are loaded and compared. -/
namespace Go.Proofs.YtikjckdoldiddaaGreatDoor
open Go.RowKit Go.Maps
set_option linter.unusedVariables false
set_option linter.unusedSimpArgs false

def aggB (d : By) : Value := .agg (u8s d).toArray
theorem arr_at {a : Addr} {m k : Nat} (h : 4 ≤ m) (W : World) : (Instr.arrayAt 195 (.slice (some a) m k)).run Tryz.prog W = .ok (.pointer (some a)) W := by
  unfold Instr.arrayAt
  rw [Sem.run_bind, run_underlying Tryz.underlying195 W]
  simp only [Result.andThen_ok]
  rw [if_neg (by omega)]
  rfl
theorem neq4 {d e : By} (hd : d.length = 4) (he : e.length = 4) (W : World) : (binOp .neq 195 (aggB d) (aggB e)).run Tryz.prog W = .ok (.bool (!(d == e))) W := by
  match d, e, hd, he with
  | [x0, x1, x2, x3], [y0, y1, y2, y3], _, _ =>
    unfold aggB
    rw [run_neq_struct]
    have hpk : Tryz.prog.plainKey 5 = true := by kernel_rfl
    have hco : Tryz.prog.cellsOf 5 = 1 := by kernel_rfl
    obtain ⟨i, hi, hz, hz1, hz2⟩ := info_parts info_u8
    rw [run_equalIn_array W 9999 _ _ Tryz.underlying195 hi, hco]
    have hr : List.range 4 = [0, 1, 2, 3] := rfl
    rw [hr]
    have p0 : ∀ a0 a1 a2 a3 : Value, (part 5 #[a0, a1, a2, a3] 0).run Tryz.prog W = .ok a0 W := fun a0 a1 a2 a3 => run_part_plain W hpk rfl
    have p1 : ∀ a0 a1 a2 a3 : Value, (part 5 #[a0, a1, a2, a3] 1).run Tryz.prog W = .ok a1 W := fun a0 a1 a2 a3 => run_part_plain W hpk rfl
    have p2 : ∀ a0 a1 a2 a3 : Value, (part 5 #[a0, a1, a2, a3] 2).run Tryz.prog W = .ok a2 W := fun a0 a1 a2 a3 => run_part_plain W hpk rfl
    have p3 : ∀ a0 a1 a2 a3 : Value, (part 5 #[a0, a1, a2, a3] 3).run Tryz.prog W = .ok a3 W := fun a0 a1 a2 a3 => run_part_plain W hpk rfl
    have q : ∀ x y : UInt8, (Op.equalIn 9999 5 (.int .u8 (x.toNat : Int)) (.int .u8 (y.toNat : Int))).run Tryz.prog W = .ok (x == y) W := fun x y => by
      rw [run_equalIn_int W 9998 5 .u8 .u8 _ _ Tryz.underlying5]
      have e : ((x.toNat : Int) == (y.toNat : Int)) = (x == y) := by
        rw [Bool.eq_iff_iff]
        simp only [beq_iff_eq]
        rw [Int.natCast_inj, UInt8.toNat_inj]
      rw [e]
    simp only [Nat.mul_one, u8s, List.map_cons, List.map_nil, Op.eqItems, Sem.run_bind, p0, p1, p2, p3, q, Result.andThen_ok, List.cons_beq_cons]
    cases h0 : x0 == y0 <;> cases h1 : x1 == y1 <;> cases h2 : x2 == y2 <;> cases h3 : x3 == y3 <;> simp [p0, p1, p2, p3, q, *]
end Go.Proofs.YtikjckdoldiddaaGreatDoor
