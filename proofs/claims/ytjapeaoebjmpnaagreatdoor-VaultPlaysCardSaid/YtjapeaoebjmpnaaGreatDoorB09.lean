/- slices.Chunk: its closure's walk. -/
import Derived.RangeFuncNested
import Derived.RangeFuncBound
import Derived.RangeFuncCalls
import Derived.RangeFuncLeaves
import Derived.Shelf.Abstract
import Derived.Shelf.RegionOpen
import Derived.WalkKit
import Derived.OwnWalkIn
import Derived.TacticsInMore
import Derived.LoopNIn
import Derived.LoopIn
import Derived.Test.YtjapeaoebjmpnaaGreatDoorB08
import Derived.Maps.OwnIn
import Derived.RangeFuncWrites
import Derived.Deep.RegionHeld3
namespace Go.Proofs.YtjapeaoebjmpnaaGreatDoor
open Go.RowKit Go.Maps Go.Shelf
set_option linter.unusedVariables false
set_option linter.unusedSimpArgs false
attribute [local go_sem] bmax2 bmin2 bmax_two bmin_two
attribute [local go_sem] Oper.semAt_some

theorem Chunk_any (w : World) (a : Option Addr) (n c : Nat) :
    Calls Tryz.prog 109 #[.slice a n c, .int .i64 512] w (fun e w' => e = .returned (.func (.func 131) #[] #[.pointer (some ⟨w.heap.size, 0, none⟩), .pointer (some ⟨w.heap.size + 1, 0, none⟩)]) ∧
      w' = (w.alloc (.cells #[.slice a n c] 23)).alloc (.cells #[.int .i64 512] 3)) := by
  go_enter Tryz.func109, Tryz.ntmps109
  go_wp2
  go_ret
  exact ⟨rfl, rfl⟩

/-- The k-th piece. -/
def chunkV (b o n k : Nat) : Value := .slice (some ⟨b, o + 512 * k, none⟩) (min 512 (n - 512 * k)) (min 512 (n - 512 * k))
theorem range_snoc (k : Nat) : List.range (k + 1) = List.range k ++ [k] := List.range_succ

set_option maxRecDepth 100000 in
set_option maxHeartbeats 4000000 in
/-- The closure, for every round that keeps the two boxes. -/
theorem chunk1_in (n : Nat) (hn : 1 ≤ n) (l Bs Bn b o len cap : Nat) (hlc : len ≤ cap) (hlen : len ≤ 1000000000000) (Kp : World → World → Prop)
    (hKp : ∀ A B, Kp A B → (∀ v, A.cell? ⟨Bs, 0, none⟩ = some v → B.cell? ⟨Bs, 0, none⟩ = some v) ∧ (∀ v, A.cell? ⟨Bn, 0, none⟩ = some v → B.cell? ⟨Bn, 0, none⟩ = some v)) (J Jx : List Nat → World → Prop)
    (hY : ∀ pre x W, J pre W → pre.length < (len + 511) / 512 → YieldAt Fence.wide (n - 1) Tryz.prog l #[chunkV b o len x] W fun e W' =>
      (e = .returned (.bool true) ∧ J (pre ++ [x]) W' ∧ Kp W W') ∨ (e = .returned (.bool false) ∧ Jx (pre ++ [x]) W'))
    (hJd : ∀ pre W q, J pre W → J pre (W.drewN q))
    (W : World) (hBs : W.cell? ⟨Bs, 0, none⟩ = some (.slice (some ⟨b, o, none⟩) len cap)) (hBn : W.cell? ⟨Bn, 0, none⟩ = some (.int .i64 512)) (h0 : J [] W) :
    CallsIn Fence.wide n Tryz.prog 131 #[.func (.yield l) #[] #[], .pointer (some ⟨Bs, 0, none⟩), .pointer (some ⟨Bn, 0, none⟩)] W fun e W' => (∃ v, e = .returned v) ∧
      ((∃ ys, ys = List.range ((len + 511) / 512) ∧ J ys W') ∨ (∃ pre, (∃ k, k ≤ (len + 511) / 512 ∧ pre = List.range k) ∧ Jx pre W')) := by
  refine callsIn_of_wp Tryz.func131 rfl trivial ?_ rfl
  simp only [Tryz.ntmps131, List.size_toArray, List.length_cons, List.length_nil, Nat.reduceAdd, Nat.reduceSub, Array.replicate_succ, Array.replicate_zero, List.push_toArray, List.append_toArray, List.nil_append, List.cons_append]
  have HKP := hid hKp
  have HJD := hid hJd
  have HY := hid hY
  clear hKp hJd hY
  gi_wp2
  gi_loopw [4, 5] (fun i _ wr => ∃ k i' : Nat, k ≤ (len + 511) / 512 ∧ i' = 512 * k ∧ i = .int .i64 i' ∧ J (List.range k) wr ∧ wr.cell? ⟨Bs, 0, none⟩ = some (.slice (some ⟨b, o, none⟩) len cap) ∧ wr.cell? ⟨Bn, 0, none⟩ = some (.int .i64 512))
    (fun i _ _ => len - (intOf i).toNat)
  case atStart => exact ⟨0, 0, Nat.zero_le _, rfl, rfl, h0, hBs, hBn⟩
  obtain ⟨k, i, hk, hi, rfl, hJs, hs, hb⟩ := hrel
  by_cases hlt : i < len
  · obtain ⟨en, hen⟩ : ∃ en, en = min 512 (len - i) := ⟨_, rfl⟩
    obtain ⟨m2, hm2⟩ : ∃ m2, m2 = len - i := ⟨_, rfl⟩
    obtain ⟨e2, he2⟩ : ∃ e2, e2 = i + en := ⟨_, rfl⟩
    have hsum : (i : Int) + (en : Int) = (e2 : Int) := by omega
    have hsw : IntKind.i64.wrap (e2 : Int) = (e2 : Int) := by rw [IntKind.wrap_i64]; omega
    have hmin : min (512 : Int) (m2 : Int) = (en : Int) := by omega
    obtain ⟨i2, hi2⟩ : ∃ i2, i2 = i + 512 := ⟨_, rfl⟩
    have hsum2 : (i : Int) + 512 = (i2 : Int) := by omega
    have hsw2 : IntKind.i64.wrap (i2 : Int) = (i2 : Int) := by rw [IntKind.wrap_i64]; omega
    obtain ⟨a2, k2, hs1, hs2⟩ : ∃ a2 k2, (∀ W, (Instr.slice 23 (.slice (some ⟨b, o, none⟩) len cap) (some (.int .i64 (i : Int))) none none).run Tryz.prog W = .ok (.slice a2 m2 k2) W) ∧
        (∀ W, (Instr.sliceAt 23 (.slice (some ⟨b, o, none⟩) len cap) (some (.int .i64 (i : Int))) none none).run Tryz.prog W = .ok (.slice a2 m2 k2) W) := by
      have hr : ∀ W, (Instr.slice 23 (.slice (some ⟨b, o, none⟩) len cap) (some (.int .i64 (i : Int))) none none).run Tryz.prog W = .ok (sliced (some ⟨b, o, none⟩) i len cap 1) W := fun W => by
        rw [run_slice_l W 23 _ len cap under_u8 .i64 i (by omega) (by omega), elem_u8]
        rfl
      rw [hm2]
      exact ⟨_, _, hr, fun W => (run_sliceAt_slice W _ _ _ _ _ under_u8).trans (hr W)⟩
    have hcv : ∀ W, (Instr.slice 23 (.slice (some ⟨b, o, none⟩) len cap) (some (.int .i64 (i : Int))) (some (.int .i64 (e2 : Int))) (some (.int .i64 (e2 : Int)))).run Tryz.prog W = .ok (chunkV b o len k) W := fun W => by
      rw [run_slice_lhm W 23 _ len cap under_u8 .i64 .i64 .i64 i e2 e2 (by omega) (by omega) (by omega) (by omega), elem_u8]
      show Result.ok (sliced (some ⟨b, o, none⟩) i e2 e2 1) W = _
      unfold sliced chunkV
      rw [if_neg (by omega), he2, Nat.add_sub_cancel_left, ← hi, hen]
      have hadd : (⟨b, o, none⟩ : Addr).add (i * 1) = ⟨b, o + i, none⟩ := by
        unfold Addr.add
        split
        · rename_i e
          have : i = 0 := by omega
          rw [this]; rfl
        rw [Nat.mul_one]
      rw [Option.map_some, hadd]
    have hcv2 : ∀ W, (Instr.sliceAt 23 (.slice (some ⟨b, o, none⟩) len cap) (some (.int .i64 (i : Int))) (some (.int .i64 (e2 : Int))) (some (.int .i64 (e2 : Int)))).run Tryz.prog W = .ok (chunkV b o len k) W := fun W => (run_sliceAt_slice W _ _ _ _ _ under_u8).trans (hcv W)
    have hkN : k < (len + 511) / 512 := by omega
    have HI := hid hi
    have HI2 := hid hi2
    have hi2l : i2 ≤ len + 512 := by omega
    have hee : i ≤ e2 := by omega
    have hel : e2 ≤ len := by omega
    clear hi hi2 hen hm2 he2
    gi_wp2
    refine (wpIn_wide (n := n)).2 ?_
    refine wp_region_quiet_lit (by kernel_rfl) (by kernel_rfl) ?_
    repeat (any_goals (first | go_big_quiet_step (fail) | quiet_step (fail)))
    refine wpQuiet_nil ?_
    intro wq hwq
    obtain ⟨nq, hwq⟩ := hwq
    subst hwq
    obtain ⟨fn, tmps, assign, body, hy, hR⟩ := HY.out _ k (wr.drewN nq) (HJD.out _ _ nq hJs) (by rw [List.length_range]; exact hkN)
    gi_wp2
    refine hR.mono ?_
    rintro e W3 (⟨rfl, hJ3, hk3⟩ | ⟨rfl, hJx3⟩)
    · obtain ⟨q1, q2⟩ := HKP.out _ _ hk3
      have hs3 := q1 _ (show (wr.drewN nq).cell? ⟨Bs, 0, none⟩ = _ from hs)
      have hb3 := q2 _ (show (wr.drewN nq).cell? ⟨Bn, 0, none⟩ = _ from hb)
      clear q1 q2 hk3 hy hR
      gi_wp2
      go_roundw
      case rel => exact ⟨k + 1, i2, by omega, by have := HI.out; have := HI2.out; omega, by go_num, by rw [range_snoc]; exact hJ3, hs3, hb3⟩
      case measure => have := HI2.out; simp [intOf]; omega
    clear hy hR
    gi_wp2
    refine bodyPost_ret (results_none rfl _ _ _) rfl ?_
    exact ⟨⟨_, rfl⟩, .inr ⟨_, ⟨k + 1, by omega, (range_snoc _).symm⟩, hJx3⟩⟩
  gi_wp2
  go_end0
  have hke : k = (len + 511) / 512 := by omega
  subst hke
  exact ⟨⟨_, rfl⟩, .inl ⟨_, rfl, hJs⟩⟩

set_option maxRecDepth 100000 in
set_option maxHeartbeats 1000000 in
/-- Over nothing: no round. -/
theorem chunk1_nil (n : Nat) (l Bs Bn : Nat) (a : Option Addr) (cap : Nat) (J : List Nat → World → Prop) (W : World) (hBs : W.cell? ⟨Bs, 0, none⟩ = some (.slice a 0 cap)) (h0 : J [] W) :
    CallsIn Fence.wide n Tryz.prog 131 #[.func (.yield l) #[] #[], .pointer (some ⟨Bs, 0, none⟩), .pointer (some ⟨Bn, 0, none⟩)] W fun e W' => (∃ v, e = .returned v) ∧ J [] W' := by
  refine callsIn_of_wp Tryz.func131 rfl trivial ?_ rfl
  simp only [Tryz.ntmps131, List.size_toArray, List.length_cons, List.length_nil, Nat.reduceAdd, Nat.reduceSub, Array.replicate_succ, Array.replicate_zero, List.push_toArray, List.append_toArray, List.nil_append, List.cons_append]
  gi_wp2
  gi_loopw [4, 5] (fun i _ wr => i = .int .i64 0 ∧ J [] wr ∧ wr.cell? ⟨Bs, 0, none⟩ = some (.slice a 0 cap)) (fun _ _ _ => 0)
  case atStart => exact ⟨rfl, h0, hBs⟩
  obtain ⟨rfl, hJs, hs⟩ := hrel
  gi_wp2
  go_end0
  exact ⟨⟨_, rfl⟩, hJs⟩

/-- What a round must keep: the two boxes. -/
def KpB (Bs Bn : Nat) (A B : World) : Prop := B.heap[Bs]? = A.heap[Bs]? ∧ B.heap[Bn]? = A.heap[Bn]?
theorem KpB.t {Bs Bn : Nat} {A B C : World} (h : KpB Bs Bn A B) (k : KpB Bs Bn B C) : KpB Bs Bn A C := ⟨k.1.trans h.1, k.2.trans h.2⟩

/-- The iterator's contract. -/
theorem chunk_stops (n : Nat) (hn : 1 ≤ n) (Bs Bn len cap : Nat) (a : Option Addr) (F : Nat → Prop) (w : World) (d : By) (hd : ByF F w a len cap d) (hlen : len ≤ 1000000000000) (b o : Nat) (hab : 0 < len → a = some ⟨b, o, none⟩)
    (hBs : w.cell? ⟨Bs, 0, none⟩ = some (.slice a len cap)) (hBn : w.cell? ⟨Bn, 0, none⟩ = some (.int .i64 512)) :
    SeqStopsK Fence.wide n Tryz.prog 131 #[.pointer (some ⟨Bs, 0, none⟩), .pointer (some ⟨Bn, 0, none⟩)] (fun k : Nat => #[chunkV b o len k]) (KpB Bs Bn)
      (fun ys => ys = List.range ((len + 511) / 512)) (fun pre => ∃ k, k ≤ (len + 511) / 512 ∧ pre = List.range k) ((len + 511) / 512) w := fun l J Jx W hW hJ hJx hY h0 => by
  have hs := (hW.cell (p := ⟨Bs, 0, none⟩) (World.block_lt_of_cell? w _ hBs)).trans hBs
  have hb := (hW.cell (p := ⟨Bn, 0, none⟩) (World.block_lt_of_cell? w _ hBn)).trans hBn
  by_cases h0l : len = 0
  · subst h0l
    exact (chunk1_nil n l Bs Bn a cap J W hs h0).mono fun e W' ⟨he, hj⟩ => ⟨he, .inl ⟨_, rfl, hj⟩⟩
  have := hab (by omega)
  subst this
  refine (chunk1_in n hn l Bs Bn b o len cap hd.2.1 hlen (KpB Bs Bn) (fun A B hk => ⟨fun v hv => (World.cell?_of_block (w := A) (a := ⟨Bs, 0, none⟩) hk.1).trans hv, fun v hv => (World.cell?_of_block (w := A) (a := ⟨Bn, 0, none⟩) hk.2).trans hv⟩) J Jx hY ?_ W hs hb h0).mono ?_
  · intro pre W q hj
    exact hJ pre W (W.drewN q) none hj ⟨rfl, rfl, rfl, Nat.le_refl _, fun _ _ _ => rfl⟩ (fun r e => by cases e)
  rintro e W' ⟨he, h⟩
  exact ⟨he, h⟩
end Go.Proofs.YtjapeaoebjmpnaaGreatDoor

/- A state's records: plain, and the row's laws. -/
namespace Go.Proofs.YtjapeaoebjmpnaaGreatDoor
open Go.RowKit Go.Maps
set_option linter.unusedVariables false
set_option linter.unusedSimpArgs false

def headS (s : Sn) : By := numS s.i ++ numS s.t ++ numS (s.vs.length : Int) ++ (s.vs.map numS).flatten ++ numS (s.d.length : Int)
def chunkB (d : By) (k : Nat) : By := (d.drop (512 * k)).take 512
def chunksB (d : By) : List By := (List.range ((d.length + 511) / 512)).map (chunkB d)
def rowsS (s : Sn) : List By := headS s :: chunksB s.d
def partsB (s : Sn) : List By := (rowsS s).map recB
def fileB (s : Sn) : By := (partsB s).flatten
theorem votG_len : ∀ (l : List Int) (p : Int), -1 ≤ p → p ≤ 6 → votG p l = true → (l.length : Int) ≤ 6 - p ∧ ∀ x ∈ l, p < x ∧ x ≤ 6 := by
  intro l
  induction l with
  | nil => intro p h1 h2 _; exact ⟨by simp; omega, fun x hx => by cases hx⟩
  | cons y l ih =>
    intro p h1 h2 h
    unfold votG at h
    rw [Bool.and_eq_true, decide_eq_true_eq] at h
    obtain ⟨⟨h3, h4⟩, h5⟩ := h
    obtain ⟨i1, i2⟩ := ih y (by omega) h4 h5
    refine ⟨by simp; omega, fun x hx => ?_⟩
    rcases List.mem_cons.1 hx with rfl | hx
    · exact ⟨h3, h4⟩
    have := i2 x hx; omega
theorem checkS_ok {s : Sn} (h : checkS s = 0) : (1 ≤ s.i ∧ s.i ≤ 1099511627776) ∧ (1 ≤ s.t ∧ s.t ≤ 1099511627776) ∧ votersB s.vs = true ∧ s.vs.length ≤ 7 ∧ (∀ x ∈ s.vs, 0 ≤ x ∧ x ≤ 6) ∧ s.d.length ≤ 262144 := by
  unfold checkS at h
  by_cases h1 : s.i < 1 ∨ 1099511627776 < s.i ∨ s.t < 1 ∨ 1099511627776 < s.t ∨ votersB s.vs = false
  · rw [if_pos h1] at h; cases h
  rw [if_neg h1] at h
  by_cases h2 : 262144 < s.d.length
  · rw [if_pos h2] at h; cases h
  have hv : votersB s.vs = true := by
    cases hv : votersB s.vs with
    | true => rfl
    | false => exact absurd (.inr (.inr (.inr (.inr hv)))) h1
  have hv2 : votG (-1) s.vs = true := by
    unfold votersB at hv
    rw [Bool.and_eq_true] at hv; exact hv.1
  obtain ⟨l1, l2⟩ := votG_len s.vs (-1) (by omega) (by omega) hv2
  refine ⟨by omega, by omega, hv, by omega, fun x hx => ?_, by omega⟩
  have := l2 x hx; omega
theorem numS_len (x : Int) : 1 ≤ (numS x).length ∧ (numS x).length ≤ 9 := numB_len _
theorem flatS_len : ∀ l : List Int, (l.map numS).flatten.length ≤ 9 * l.length := by
  intro l
  induction l with
  | nil => simp
  | cons x l ih => rw [List.map_cons, List.flatten_cons, List.length_append, List.length_cons]; have := (numS_len x).2; omega
theorem headS_len {s : Sn} (h : s.vs.length ≤ 7) : (headS s).length ≤ 99 := by
  unfold headS
  simp only [List.length_append]
  have := flatS_len s.vs
  have := (numS_len s.i).2; have := (numS_len s.t).2; have := (numS_len (s.vs.length : Int)).2; have := (numS_len (s.d.length : Int)).2
  omega
theorem chunkB_len (d : By) (k : Nat) : (chunkB d k).length ≤ 512 := by unfold chunkB; rw [List.length_take]; omega

/-- A row of one that was laid just now. -/
theorem OwnR.one_ {B : Nat} {w : World} {a : Option Addr} {n c : Nat} {d : By} (h : ByF (fun _ => True) w a n c d) (hB : B ≤ w.heap.size) :
    OwnR B (w.alloc (.cells #[.slice a n c] 23)) (.slice (some ⟨w.heap.size, 0, none⟩) 1 1) [d] := by
  refine ⟨[.slice a n c], rfl, ⟨rfl, .inr ⟨w.heap.size, 1, _, rfl, hB, heap_alloc_new w _, Nat.le_refl _, by unfold maxLen; omega, rfl, rfl⟩⟩, fun k k1 k2 => ?_⟩
  have hk : k = 0 := by simp at k1; omega
  subst hk
  refine ⟨a, n, c, rfl, ?_⟩
  exact (h.lt.below (ext_alloc w _)).more fun q hq => by
    intro e
    injection e with e
    have e := (show w.heap.size = q from e)
    omega
/-- A cell of the row is overwritten. -/
theorem OwnR.set_ {B : Nat} {w : World} {g N c : Nat} {L : List By} (h : OwnR B w (.slice (some ⟨g, 0, none⟩) N c) L) {k : Nat} (hk : k < L.length) {a : Option Addr} {n m : Nat} {d : By} (hd : ByF (fun q => q ≠ g) w a n m d) :
    OwnR B (w.setCell ⟨g, k, none⟩ (.slice a n m)) (.slice (some ⟨g, 0, none⟩) N c) (L.set k d) := by
  obtain ⟨H, h1, h2, h3⟩ := h
  obtain ⟨e0, e1 | ⟨g', cap, cur, e1, e2, e3, e4, e5, e6, e7⟩⟩ := h2
  · cases e1.1
  injection e1 with i1 i2 i3
  injection i1 with i1; injection i1 with i1
  subst i1; subst i3
  have hcur : cur.toList.length = c := by rw [Array.length_toList, e6, Nat.mul_one]
  refine ⟨H.set k (.slice a n m), by simp [h1], ⟨by simp, .inr ⟨g, c, cur.setIfInBounds k (.slice a n m), by rw [List.length_set, i2], e2, heap_setCell_same w g k cur _ _ e3, by rw [List.length_set]; exact e4, e5, by simpa using e6, ?_⟩⟩, fun j j1 j2 => ?_⟩
  · rw [Nat.mul_one] at e7
    rw [Array.toList_setIfInBounds, List.length_set, Nat.mul_one, List.take_set, e7]
  by_cases hj : k = j
  · subst hj
    refine ⟨a, n, m, by simp, ?_⟩
    have e : (L.set k d)[k] = d := by simp
    rw [e]
    exact hd.keep fun q hq hl => ⟨fun e => by injection e with e; exact hq (show g = q from e).symm, heap_setCell_other w _ q _ hq⟩
  simp only [List.length_set] at j1 j2
  obtain ⟨a', n', c', p1, p2⟩ := h3 j j1 j2
  refine ⟨a', n', c', by rw [List.getElem_set_ne hj]; exact p1, ?_⟩
  rw [List.getElem_set_ne hj]
  exact p2.keep fun q hq hl => ⟨hq, heap_setCell_other w _ q _ (by intro e; exact hq (by rw [e]; rfl))⟩
theorem OwnR.cell_ {B : Nat} {w : World} {g N c : Nat} {L : List By} (h : OwnR B w (.slice (some ⟨g, 0, none⟩) N c) L) {k : Nat} (hk : k < L.length) :
    ∃ a n m, w.cell? ⟨g, k, none⟩ = some (.slice a n m) ∧ w.frozen? ⟨g, k, none⟩ = false ∧ ByF (fun q => q ≠ g) w a n m L[k] := by
  obtain ⟨H, h1, h2, h3⟩ := h
  obtain ⟨a, n, m, p1, p2⟩ := h3 k (by omega) hk
  obtain ⟨e0, e1 | ⟨g', cap, cur, e1, e2, e3, e4, e5, e6, e7⟩⟩ := h2
  · cases e1.1
  injection e1 with i1 i2 i3
  injection i1 with i1; injection i1 with i1
  subst i1
  refine ⟨a, n, m, ?_, by simp [World.frozen?, e3], p2.more fun q hq e => hq (by rw [e]; rfl)⟩
  rw [← p1]
  have hq := congrArg (fun l => l[k]?) e7
  simp only [List.getElem?_take, Nat.mul_one] at hq
  rw [if_pos (by omega), List.getElem?_eq_getElem (by omega : k < H.length)] at hq
  unfold World.cell?
  simp only [e3]
  simpa [Array.getElem?_toList] using hq
theorem wpListIn_appOne {F : Fence} {nF : Nat} {w : World} {ops : Array Oper} {rest : List Oper} {o : Oper} {a : Act} {Q : Exit → Act → World → Prop} (hgd : o.guard = none) (s x : Operand)
    (ho : o.op = .call { callee := .builtin .append, args := #[s, x], argTypes := #[129, 129] }) (base : Nat) (v : Value) (n : Nat) (xs : List Value) (hs : a.eval s = v) (hown : w.ownsRow base 23 1 v n xs)
    (g : Nat) (hx : a.eval x = .slice (some ⟨g, 0, none⟩) 1 1) (A : Option Addr) (k c : Nat) (hc : w.cell? ⟨g, 0, none⟩ = some (.slice A k c)) (hn : n ≤ 1000000000000) (hbase : base ≤ w.heap.size)
    (h : ∀ v' w', w'.ownsRow base 23 1 v' (n + 1) (xs ++ [.slice A k c]) → w.grownBy w' v.ownBlock → (v'.ownBlock = v.ownBlock ∨ v'.ownBlock = some w.heap.size) → wpListIn F nF Tryz.prog ops Q rest (a.put o.dst v') w') :
    wpListIn F nF Tryz.prog ops Q (o :: rest) a w := by
  obtain ⟨i0, hi0, hz0, hz1, hz2⟩ := info_parts info_sl
  refine wpListIn_append_own_at _ hgd s x 129 ho base 23 i0 (.slice none 0 0) 1 24 Tryz.underlying129 hi0 hz0 hz1 hz2 rfl (by decide) v n xs hs hown ⟨g, 0, none⟩ 1 1 [.slice A k c] hx rfl
    (fun j u hu => by
      cases j with
      | zero => have hu := Option.some.inj hu; subst hu; exact hc
      | succ j => cases (show (none : Option Value) = some u from hu)) (fun u hu => by rw [List.mem_singleton] at hu; subst hu; rfl) (by unfold maxLen; omega) (by omega) hbase fun v' w' q1 q2 q3 q4 => h v' w' q1 q2 q4

theorem cells_of_cell {w : World} {a : Addr} {v : Value} (h : w.cell? a = some v) : ∃ (cur : Array Value) (t : TypeId) (z : Nat × Nat), w.heap[a.block]? = some (Obj.cells cur t z) := by
  unfold World.cell? at h
  cases hq : w.heap[a.block]? with
  | none => rw [hq] at h; cases h
  | some o =>
    rw [hq] at h
    cases o with
    | cells cur t z => exact ⟨cur, t, z, rfl⟩
    | _ => cases h
theorem ByF.keepc {F : Nat → Prop} {w w' : World} {a : Option Addr} {n c : Nat} {d : By} (h : ByF F w a n c d) (hk : ∀ (q : Nat) (cur : Array Value) (t : TypeId) (z : Nat × Nat), w.heap[q]? = some (Obj.cells cur t z) → w'.heap[q]? = w.heap[q]?) : ByF F w' a n c d := by
  obtain ⟨h1, h2, h3, h4, h5⟩ := h
  refine ⟨h1, h2, h3, h4, fun p hp => ⟨(h5 p hp).1, fun k hl => ?_⟩⟩
  obtain ⟨h7, h9⟩ := (h5 p hp).2 k hl
  obtain ⟨cur, t, z, hc⟩ := cells_of_cell h9
  exact ⟨h7, (World.cell?_of_block (w := w) (a := ⟨p.block, p.off + k, none⟩) (hk _ _ _ _ hc)).trans h9⟩
theorem OwnR.keepc {B : Nat} {w w' : World} {v : Value} {L : List By} (h : OwnR B w v L) (hk : ∀ (q : Nat) (cur : Array Value) (t : TypeId) (z : Nat × Nat), w.heap[q]? = some (Obj.cells cur t z) → w'.heap[q]? = w.heap[q]?) : OwnR B w' v L := by
  obtain ⟨H, h1, h2, h3⟩ := h
  refine ⟨H, h1, own_keep h2 fun q hq => ?_, fun k k1 k2 => ?_⟩
  · obtain ⟨-, cur, t, z, hc⟩ := own_cells h2 hq
    exact hk _ _ _ _ hc
  obtain ⟨a, n, c, e, hb⟩ := h3 k k1 k2
  exact ⟨a, n, c, e, hb.keepc hk⟩
/-- The first j rows lie in memory from B on. -/
def FreshR (B g : Nat) (w : World) (L : List By) (j : Nat) : Prop := ∀ k (h : k < L.length), k < j → ∃ a n c, w.cell? ⟨g, k, none⟩ = some (.slice a n c) ∧ ByF (fun q => B ≤ q ∧ q ≠ g) w a n c (recB L[k])
theorem FreshR.step {B g : Nat} {w w6 : World} {L : List By} {j : Nat} (h : FreshR B g w L j) (hx : Ext w w6) {a : Option Addr} {n c : Nat} (hj : j < L.length) (hd : ByF (fun q => B ≤ q ∧ q ≠ g) w6 a n c (recB L[j]))
    {x : Value} (hc : w6.cell? ⟨g, j, none⟩ = some x) : FreshR B g (w6.setCell ⟨g, j, none⟩ (.slice a n c)) L (j + 1) := by
  intro k h1 h2
  by_cases hk : k = j
  · subst hk
    refine ⟨a, n, c, World.cell?_setCell_same w6 ⟨g, k, none⟩ _ hc, hd.keep fun q hq _ => ⟨hq, heap_setCell_other w6 _ q _ hq.2⟩⟩
  obtain ⟨a', n', c', e1, e2⟩ := h k h1 (by omega)
  refine ⟨a', n', c', ?_, (e2.below hx).keep fun q hq _ => ⟨hq, heap_setCell_other w6 _ q _ hq.2⟩⟩
  rw [World.cell?_setCell_other _ _ _ _ (by intro e; injection e with _ e _; exact hk e.symm)]
  exact (hx.cell (p := ⟨g, k, none⟩) (World.block_lt_of_cell? w _ e1)).trans e1
theorem FreshR.bs {B g : Nat} {w : World} {L : List By} {N rc : Nat} (h : FreshR B g w L N) (hN : N = L.length) (hB : B ≤ g) (hb : BsF (fun _ => True) w (some ⟨g, 0, none⟩) N rc (L.map recB)) : BsF (fun q => B ≤ q) w (some ⟨g, 0, none⟩) N rc (L.map recB) := by
  obtain ⟨h1, h2, h3, h4, h5⟩ := hb
  refine ⟨h1, h2, h3, h4, fun p hp => ⟨(h5 p hp).1, fun k hk => ?_⟩⟩
  cases hp
  have hk' : k < L.length := by simpa using hk
  obtain ⟨a', n', c', e1, e2⟩ := h k hk' (by omega)
  refine ⟨hB, a', n', c', by rw [← e1]; show w.cell? ⟨g, 0 + k, none⟩ = _; rw [Nat.zero_add], ?_⟩
  rw [List.getElem_map]
  exact e2.more fun q hq => hq.1
theorem FreshR.keepc {B g : Nat} {w w' : World} {L : List By} {j : Nat} (h : FreshR B g w L j) (hk : ∀ (q : Nat) (cur : Array Value) (t : TypeId) (z : Nat × Nat), w.heap[q]? = some (Obj.cells cur t z) → w'.heap[q]? = w.heap[q]?) : FreshR B g w' L j := by
  intro k h1 h2
  obtain ⟨a', n', c', e1, e2⟩ := h k h1 h2
  obtain ⟨cur, t, z, hc⟩ := cells_of_cell e1
  exact ⟨a', n', c', (World.cell?_of_block (w := w) (a := ⟨g, k, none⟩) (hk g cur t z hc)).trans e1, e2.keepc hk⟩
/-- The rounds' deferred calls are taken. -/
theorem put_deferred {W : World} {D : Nat} {o : Obj} (hK : W.heap[D]? = some (.deferred (some []))) : (∀ (q : Nat) (cur : Array Value) (t : TypeId) (z : Nat × Nat), W.heap[q]? = some (Obj.cells cur t z) → (W.putObj D o).heap[q]? = W.heap[q]?) := fun q cur t z hq =>
  (grownBy_putObj' W D o).block q (Array.getElem?_eq_some_iff.1 hq).1 fun e => by
    injection e with e
    subst e
    rw [hK] at hq; cases hq

/-- What lies there when some pieces have come. -/
def PartI (base gb g0 : Nat) (W7 : World) (hv : Value) (cv : Nat → Value) (pre : List Nat) (W : World) : Prop :=
  ∃ a n c, W.heap[gb]? = some (.cells #[.slice a n c] 129 (0, 0)) ∧ W.ownsRow base 23 1 (.slice a n c) (1 + pre.length) (hv :: pre.map cv) ∧
    (∀ q, (Value.slice a n c).ownBlock = some q → q = g0 ∨ W7.heap.size ≤ q) ∧ Frm (fun q => q = gb ∨ q = g0) W7 W
theorem PartI.own {base gb g0 : Nat} {W7 : World} {hv : Value} {cv : Nat → Value} (hgb : gb < W7.heap.size) : OwnFrom W7.heap.size (PartI base gb g0 W7 hv cv) := by
  rintro pre W W' row ⟨a, n, c, h1, h2, h3, h4⟩ hg hr
  refine ⟨a, n, c, (hg.block gb (Array.getElem?_eq_some_iff.1 h1).1 fun e => ?_).trans h1, own_keep h2 fun q hq => hg.block q (own_cells h2 hq).1 fun e => ?_, h3, ⟨hg.os.trans h4.os, hg.tape.trans h4.tape, hg.output.trans h4.output, Nat.le_trans h4.size hg.size, fun k hk hn => ?_⟩⟩
  · have := (hr gb e.symm).1; omega
  · obtain ⟨o, ho, hc⟩ := (hr q e.symm).2
    obtain ⟨-, cur, t, z, hq2⟩ := own_cells h2 hq
    rw [hq2] at ho; injection ho with ho; subst ho; cases hc
  exact (hg.block k (Nat.lt_of_lt_of_le hk h4.size) fun e => by have := (hr k e.symm).1; omega).trans (h4.block k hk hn)
theorem PartI.step {base gb g0 Bs Bn : Nat} {W7 : World} {hv : Value} {cv : Nat → Value} {pre : List Nat} {W : World} {a : Option Addr} {n c : Nat} (h1 : W.heap[gb]? = some (.cells #[.slice a n c] 129 (0, 0)))
    (h3 : ∀ q, (Value.slice a n c).ownBlock = some q → q = g0 ∨ W7.heap.size ≤ q) (h4 : Frm (fun q => q = gb ∨ q = g0) W7 W) (x : Nat) {o : Obj} {v' : Value} {w2 : World} (hw2 : w2.ownsRow base 23 1 v' (1 + (pre ++ [x]).length) (hv :: (pre ++ [x]).map cv))
    (hg : (W.alloc o).grownBy w2 (Value.slice a n c).ownBlock) (hat : v'.ownBlock = (Value.slice a n c).ownBlock ∨ v'.ownBlock = some (W.alloc o).heap.size)
    (hgb : gb < W7.heap.size) (hg0 : g0 < W7.heap.size) (hne : gb ≠ g0) (hs : Bs < W7.heap.size) (hn : Bn < W7.heap.size) (s1 : Bs ≠ gb) (s2 : Bs ≠ g0) (n1 : Bn ≠ gb) (n2 : Bn ≠ g0) (hcells : ∀ q, (Value.slice a n c).ownBlock = some q → ∃ cur t z, W.heap[q]? = some (.cells cur t z)) :
    KeepsFrom W7.heap.size W (w2.setCell ⟨gb, 0, none⟩ v') ∧ KpB Bs Bn W (w2.setCell ⟨gb, 0, none⟩ v') ∧ PartI base gb g0 W7 hv cv (pre ++ [x]) (w2.setCell ⟨gb, 0, none⟩ v') := by
  have hsz := h4.size
  have hsz2 := hg.size
  simp only [World.size_alloc] at hsz2 hat
  have hold : ∀ q, q < W.heap.size → (Value.slice a n c).ownBlock ≠ some q → q ≠ gb → (w2.setCell ⟨gb, 0, none⟩ v').heap[q]? = W.heap[q]? := fun q hq hq1 hq2 =>
    (heap_setCell_other w2 _ q _ hq2).trans ((hg.block q (by simp; omega) fun e => hq1 e.symm).trans (Below.heap_alloc _ _ _ hq))
  have hsmall : ∀ q, q < W7.heap.size → q ≠ g0 → (Value.slice a n c).ownBlock ≠ some q := fun q hq hq0 e => by
    rcases h3 q e with h | h
    · exact hq0 h
    omega
  obtain ⟨a', c', hv'⟩ := own_slice2 hw2
  have hgbw : w2.heap[gb]? = some (.cells #[.slice a n c] 129 (0, 0)) :=
    ((hg.block gb (by simp; omega) fun e => hsmall gb hgb hne e.symm).trans (Below.heap_alloc _ _ _ (by omega))).trans h1
  have hss := heap_setCell_same w2 gb 0 _ _ v' hgbw
  refine ⟨⟨by simp [World.setCell]; omega, fun q o' hB hq ho => ?_⟩, ⟨hold Bs (by omega) (hsmall Bs hs s2) s1, hold Bn (by omega) (hsmall Bn hn n2) n1⟩, ?_⟩
  · rw [hold q (Array.getElem?_eq_some_iff.1 hq).1 (fun e => ?_) (by omega)]
    · exact hq
    obtain ⟨cur, t, z, hc⟩ := hcells q e
    rw [hc] at hq; injection hq with hq; subst hq; cases ho
  subst hv'
  refine ⟨a', _, c', hss, own_keep hw2 fun q hq => heap_setCell_other w2 _ q _ ?_, fun q hq => ?_, ⟨(show _ = _ from hg.os).trans h4.os, (show _ = _ from hg.tape).trans h4.tape, (show _ = _ from hg.output).trans h4.output, by simp [World.setCell]; omega, fun q hq hn => ?_⟩⟩
  · show q ≠ gb
    rcases hat with e | e
    · rw [e] at hq; intro e2; subst e2; exact hsmall q hgb hne hq
    rw [e] at hq; injection hq with hq; omega
  · rcases hat with e | e
    · rw [e] at hq; exact h3 q hq
    rw [e] at hq; injection hq with hq; exact .inr (by omega)
  have hq1 : q ≠ gb := fun e => hn (.inl e)
  have hq0 : q ≠ g0 := fun e => hn (.inr e)
  exact (hold q (by omega) (hsmall q hq hq0) hq1).trans (h4.block q hq hn)
/-- The box is as it was behind an append. -/
theorem gb_same {gb g0 : Nat} {W7 W w2 : World} {a : Option Addr} {n c : Nat} {o : Obj} (h1 : W.heap[gb]? = some (.cells #[.slice a n c] 129 (0, 0))) (h3 : ∀ q, (Value.slice a n c).ownBlock = some q → q = g0 ∨ W7.heap.size ≤ q) (h4 : Frm (fun q => q = gb ∨ q = g0) W7 W)
    (hg : (W.alloc o).grownBy w2 (Value.slice a n c).ownBlock) (hgb : gb < W7.heap.size) (hne : gb ≠ g0) :
    w2.cell? ⟨gb, 0, none⟩ = some (.slice a n c) ∧ w2.frozen? ⟨gb, 0, none⟩ = false ∧ gb < w2.heap.size := by
  have hsz := h4.size
  have h : w2.heap[gb]? = some (.cells #[.slice a n c] 129 (0, 0)) :=
    ((hg.block gb (by simp; omega) fun e => by rcases h3 gb e.symm with h | h; exact hne h; omega).trans (Below.heap_alloc _ _ _ (by omega))).trans h1
  exact ⟨by simp [World.cell?, h], by simp [World.frozen?, h], (Array.getElem?_eq_some_iff.1 h).1⟩
/-- Of what came the row. -/
theorem PartI.row {base gb g0 : Nat} {W7 : World} {g5 m5 c5 b o len cap : Nat} {a0 : Option Addr} {hd d : By} {W : World} (h : PartI base gb g0 W7 (.slice (some ⟨g5, 0, none⟩) m5 c5) (chunkV b o len) (List.range ((len + 511) / 512)) W)
    (hh : ByF (fun q => q ≠ g0 ∧ q ≠ gb) W7 (some ⟨g5, 0, none⟩) m5 c5 hd) (hdd : ByF (fun q => q ≠ g0 ∧ q ≠ gb) W7 a0 len cap d) (hab : 0 < len → a0 = some ⟨b, o, none⟩) :
    ∃ a n c, W.heap[gb]? = some (.cells #[.slice a n c] 129 (0, 0)) ∧ OwnR base W (.slice a n c) (hd :: chunksB d) ∧ (∀ q, (Value.slice a n c).ownBlock = some q → q = g0 ∨ W7.heap.size ≤ q) ∧ Frm (fun q => q = gb ∨ q = g0) W7 W := by
  obtain ⟨a, n, c, h1, h2, h3, h4⟩ := h
  have hlen : len = d.length := hdd.1
  have keepF : ∀ {A : Option Addr} {n1 c1 : Nat} {b1 : By}, ByF (fun q => q ≠ g0 ∧ q ≠ gb) W7 A n1 c1 b1 → ByF (fun q => (Value.slice a n c).ownBlock ≠ some q) W A n1 c1 b1 := fun hb => hb.keep fun q hq hl =>
    ⟨fun e => by rcases h3 q e with h | h; exact hq.1 h; omega, h4.block q hl fun e => by rcases e with e | e; exact hq.2 e; exact hq.1 e⟩
  refine ⟨a, n, c, h1, ⟨.slice (some ⟨g5, 0, none⟩) m5 c5 :: (List.range ((len + 511) / 512)).map (chunkV b o len), ?_, ?_, ?_⟩, h3, h4⟩
  · simp [chunksB, hlen]
  · have e : (Value.slice (some ⟨g5, 0, none⟩) m5 c5 :: (List.range ((len + 511) / 512)).map (chunkV b o len)).length = 1 + (List.range ((len + 511) / 512)).length := by simp; omega
    rw [e]; exact h2
  intro k k1 k2
  cases k with
  | zero => exact ⟨_, _, _, rfl, keepF hh⟩
  | succ k =>
    have hk : k < (len + 511) / 512 := by simpa using k1
    have := hab (by omega)
    subst this
    have hc := cut_by hdd (l := 512 * k) (u := min (512 * k + 512) len) (by omega) (by omega)
    refine ⟨some ⟨b, o + 512 * k, none⟩, min 512 (len - 512 * k), min 512 (len - 512 * k), by simp [chunkV], keepF ?_⟩
    have e1 : ((d.take (min (512 * k + 512) len)).drop (512 * k)) = (hd :: chunksB d)[k + 1] := by
      simp only [List.getElem_cons_succ, chunksB, List.getElem_map, List.getElem_range, chunkB]
      rw [List.drop_take]
      by_cases hm : 512 * k + 512 ≤ len
      · rw [Nat.min_eq_left hm, Nat.add_sub_cancel_left]
      rw [Nat.min_eq_right (by omega), List.take_of_length_le (by rw [List.length_drop]; omega), List.take_of_length_le (by rw [List.length_drop]; omega)]
    rw [← e1]
    have e2 : min (512 * k + 512) len - 512 * k = min 512 (len - 512 * k) := by omega
    rw [e2] at hc
    obtain ⟨q1, q2, q3, q4, q5⟩ := hc
    rw [if_neg (by have := hdd.2.1; omega)] at q5
    have hadd : (⟨b, o, none⟩ : Addr).add (512 * k * 1) = ⟨b, o + 512 * k, none⟩ := by
      unfold Addr.add
      split
      · rename_i e
        have : 512 * k = 0 := by omega
        rw [this]; rfl
      rw [Nat.mul_one]
    rw [Option.map_some, hadd] at q5
    exact ⟨q1, Nat.le_refl _, ⟨by unfold maxLen; omega, by omega⟩, (fun e => by cases e), fun p hp => ⟨fun _ => by cases hp; rfl, (q5 p hp).2⟩⟩
end Go.Proofs.YtjapeaoebjmpnaaGreatDoor

/- The walk of parts. -/
namespace Go.Proofs.YtjapeaoebjmpnaaGreatDoor
open Go.RowKit Go.Maps Go.Shelf
set_option linter.unusedVariables false
set_option linter.unusedSimpArgs false
attribute [local go_sem] bmax2 bmin2 bmax_two bmin_two
attribute [local go_sem] Oper.semAt_some

/-- Number's contract, as it is used here. -/
def NumPost (n : Nat) (d : By) (w : World) (e : Ending) (w' : World) : Prop :=
  ∃ g m c, e = .returned (.slice (some ⟨g, 0, none⟩) m c) ∧ Hid (ByF (fun _ => True) w' (some ⟨g, 0, none⟩) m c d) ∧ m ≤ n ∧ Hid (w.heap.size ≤ g ∧ Ext w w')
theorem Num_plain {w : World} {a : Option Addr} {n c : Nat} {d : By} (h : ByF (fun _ => True) w a n c d) (N : Nat) (hN : n ≤ N) (hN2 : N ≤ 10000) (z : Int) (hz : In64 z) :
    Calls Tryz.prog 108 #[.slice a n c, .int .i64 z] w (NumPost (N + 9) (d ++ numS z) w) := by
  refine (Number_any h (by omega) z hz).mono ?_
  rintro e w' ⟨g, m, c', rfl, ho, hx⟩
  have hm := ho.1
  have h1 := h.1
  have h2 := (numS_len z).2
  rw [List.length_append] at hm
  refine ⟨g, m, c', rfl, ho.any (by omega), by omega, ?_, hx⟩
  obtain ⟨-, g', c2, e1, e2⟩ := ho
  injection e1 with e1; injection e1 with e1; injection e1 with e1
  subst e1
  exact (e2.lt g rfl).1

set_option maxRecDepth 100000 in
set_option maxHeartbeats 8000000 in
theorem parts_any {F : Nat → Prop} {w : World} {v : Value} {s : Sn} (h : SnV F w v s) (hvs : s.vs.length ≤ 7) (hdl : s.d.length ≤ 262144) :
    Calls Tryz.prog 84 #[v] w (fun e w' => ∃ a n c, e = .returned (.slice a n c) ∧ OwnR w.heap.size w' (.slice a n c) (partsB s) ∧ Ext w w' ∧ BsF (fun q => w.heap.size ≤ q) w' a n c (partsB s)) := by
  obtain ⟨va, vn, vc, da, dn, dc, rfl, hi, ht, hv, hd⟩ := h
  obtain ⟨i, t, vs, d⟩ := s
  dsimp only at *
  refine (callsIn_wide (n := 3)).1 ?_
  refine callsIn_of_wp_marks Tryz.func84 rfl trivial ?_ rfl
  simp only [Tryz.ntmps84, List.size_toArray, List.length_cons, List.length_nil, Nat.reduceAdd, Nat.reduceSub, Array.replicate_succ, Array.replicate_zero, List.push_toArray, List.append_toArray, List.nil_append, List.cons_append]
  refine (wpIn_wide (n := 3)).2 ?_
  have HV := hid hv
  have HD := hid hd
  have hn1 : vn = vs.length := hv.1
  have hn2 : dn = d.length := hd.1
  have HN1 := hid hn1
  have HN2 := hid hn2
  have hvn : vn ≤ 7 := by omega
  have hdn : dn ≤ 262144 := by omega
  have HI := hid hi
  have HT := hid ht
  clear hv hd hn1 hn2 hi ht
  go_wp2
  generalize hW0 : w.alloc (.cells #[.int .i64 i, .int .i64 t, .slice va vn vc, .slice da dn dc] 25) = W0
  have hx0 : Ext w W0 := by rw [← hW0]; exact ext_alloc _ _
  have hz0 : W0.heap.size = w.heap.size + 1 := by rw [← hW0]; simp
  have hq0 : W0.heap[w.heap.size]? = some (.cells #[.int .i64 i, .int .i64 t, .slice va vn vc, .slice da dn dc] 25 (0, 0)) := by rw [← hW0]; exact heap_alloc_new _ _
  have cells : ∀ W, Ext W0 W → (W.cell? ⟨w.heap.size, 0, none⟩ = some (.int .i64 i) ∧ W.cell? ⟨w.heap.size, 1, none⟩ = some (.int .i64 t) ∧ W.cell? ⟨w.heap.size, 2, none⟩ = some (.slice va vn vc) ∧ W.cell? ⟨w.heap.size, 3, none⟩ = some (.slice da dn dc)) := fun W hW => by
    have h1 := (hW.block w.heap.size (by omega)).trans hq0
    exact ⟨by simp [World.cell?, h1], by simp [World.cell?, h1], by simp [World.cell?, h1], by simp [World.cell?, h1]⟩
  have HC := hid cells
  have HX0 := hid hx0
  have HZ0 := hid hz0
  have hNum := fun W => Num_plain (ByF.nil_ (fun _ => True) W) 0 (Nat.le_refl _) (by omega) i HI.out
  have HNum := hid hNum
  clear hW0 cells hx0 hq0 hz0 hNum
  go_region_held3 (fun W => W.cell? ⟨w.heap.size, 0, none⟩ = some (.int .i64 i) ∧ W.cell? ⟨w.heap.size, 1, none⟩ = some (.int .i64 t))
    (first | exact ⟨(HC.out _ (ext_drew _)).1, (HC.out _ (ext_drew _)).2.1⟩ | exact ⟨(HC.out _ y2).1, (HC.out _ y2).2.1⟩ | exact ⟨(HC.out _ y1).1, (HC.out _ y1).2.1⟩)
    (first
      | (go_at_call 108; refine Calls.mono (Num_plain HB1.out 9 hm1 (by omega) t HT.out) ?_; rintro e w2 ⟨g2, m2, c2, rfl, HB2, hm2, HG2⟩; have y2 : Ext W0 w2 := y1.trans' HG2.out.2)
      | (go_at_call 108; refine Calls.mono (HNum.out _) ?_; rintro e w1 ⟨g1, m1, c1, rfl, HB1, hm1, HG1⟩; have y1 : Ext W0 w1 := (ext_drew _).trans' HG1.out.2))
  obtain ⟨ca, cb, cc, cd⟩ := HC.out w2 y2
  have hIn : In64 (vn : Int) := ⟨by omega, by omega⟩
  have HNv := hid (Num_plain HB2.out 18 hm2 (by omega) (vn : Int) hIn)
  clear hIn HNum
  go_wp2_with fail
  refine Calls.mono HNv.out ?_
  rintro e w3 ⟨g3, m3, c3, rfl, HB3, hm3, HG3⟩
  have y3 : Ext W0 w3 := y2.trans' HG3.out.2
  obtain ⟨ca3, cb3, cc3, cd3⟩ := HC.out w3 y3
  have HS := hid (show [] ++ numS i ++ numS t ++ numS (vn : Int) = numS i ++ numS t ++ numS (vn : Int) ++ ((vs.take 0).map numS).flatten by simp)
  clear ca cb cc cd
  go_wp2
  go_loopw [3, 5, 24] (fun x _ z wr => ∃ (k g m c : Nat), k ≤ vn ∧ z = .int .i64 (k : Int) ∧ x = .slice (some ⟨g, 0, none⟩) m c ∧ Hid (ByF (fun _ => True) wr (some ⟨g, 0, none⟩) m c (numS i ++ numS t ++ numS (vn : Int) ++ ((vs.take k).map numS).flatten)) ∧ m ≤ 27 + 9 * k ∧ Hid (Ext W0 wr) ∧ Hid (W0.heap.size ≤ g)) (fun _ _ z _ => vn - (intOf z).toNat)
  case atStart => exact ⟨0, g3, m3, c3, Nat.zero_le _, rfl, rfl, (show ByF _ _ _ _ _ _ by rw [← HS.out]; exact HB3.out), by omega, y3, (by have := HG3.out.1; have := y2.size; show W0.heap.size ≤ g3; omega)⟩
  obtain ⟨k, g, m, c, hk, rfl, rfl, HB, hm, HX, HGB⟩ := hrel
  by_cases hlt : k < vn
  · obtain ⟨b, o, rfl, hbl, hkl, q, hin⟩ := (HV.out.below (HX0.out.trans' HX.out)).at_ hlt
    have hft : ((vs.take (k + 1)).map numS).flatten = ((vs.take k).map numS).flatten ++ numS vs[k] := by
      rw [List.take_succ_eq_append_getElem hkl, List.map_append, List.flatten_append]; simp
    have HFT := hid hft
    generalize vs[k] = x at *
    have HNx := hid (Num_plain HB.out (27 + 9 * k) hm (by omega) x hin)
    have hxr := HX0.out.trans' HX.out
    clear hft hin hxr
    go_wp2_with fail
    refine Calls.mono HNx.out ?_
    rintro e w4 ⟨g4, m4, c4, rfl, HB4, hm4, HG4⟩
    have HX4 := hid (HX.out.trans' HG4.out.2)
    have hgb4 := hid (show W0.heap.size ≤ g4 by have := HG4.out.1; have := HX.out.size; omega)
    go_wp2
    go_roundw
    case rel => exact ⟨k + 1, g4, m4, c4, by omega, by go_num, rfl, (show ByF _ _ _ _ _ _ by rw [HFT.out, ← List.append_assoc]; exact HB4.out), by omega, HX4, hgb4⟩
    case measure => simp [intOf]; omega
  obtain rfl : k = vn := by omega
  have htk : vs.take k = vs := List.take_of_length_le (by have := HN1.out; omega)
  have hb := HB.out
  rw [htk] at hb
  have HB5 := hid hb
  obtain ⟨ca4, cb4, cc4, cd4⟩ := HC.out wr HX.out
  have HNd := hid (Num_plain HB5.out (27 + 9 * 7) (by omega) (by omega) (dn : Int) ⟨by omega, by omega⟩)
  clear htk hb HB ca3 cb3 cc3 cd3
  go_wp2_with fail
  refine Calls.mono HNd.out ?_
  rintro e w5 ⟨g5, m5, c5, rfl, HB6, hm5, HG5⟩
  have HX5 := hid (HX.out.trans' HG5.out.2)
  obtain ⟨ca5, cb5, cc5, cd5⟩ := HC.out _ (HX5.out.trans' ((ext_alloc w5 (.cells #[.slice (some ⟨g5, 0, none⟩) m5 c5] 23)).trans' (ext_alloc _ (.cells #[.slice (some ⟨w5.heap.size, 0, none⟩) 1 1] 129))))
  clear ca4 cb4 cc4 cd4
  go_wp2_with fail
  refine Calls.mono (Chunk_any _ da dn dc) ?_
  rintro e w7 ⟨rfl, hw7⟩
  have hz7 : w7.heap.size = w5.heap.size + 4 := by rw [hw7]; simp
  have hx57 : Ext w5 w7 := by
    rw [hw7]
    exact ((ext_alloc _ _).trans' (ext_alloc _ _)).trans' ((ext_alloc _ _).trans' (ext_alloc _ _))
  have hh0 : w7.heap[w5.heap.size]? = some (.cells #[.slice (some ⟨g5, 0, none⟩) m5 c5] 23 (0, 0)) := by
    rw [hw7, heap_alloc_old _ _ _ (by simp; try omega), heap_alloc_old _ _ _ (by simp; try omega)]
    exact heap_alloc2_old _ _ _
  have hhb : w7.heap[w5.heap.size + 1]? = some (.cells #[.slice (some ⟨w5.heap.size, 0, none⟩) 1 1] 129 (0, 0)) := by
    rw [hw7, heap_alloc_old _ _ _ (by simp; try omega), heap_alloc_old _ _ _ (by simp; try omega)]
    exact heap_alloc2_new _ _ _
  have hhs : w7.heap[w5.heap.size + 2]? = some (.cells #[.slice da dn dc] 23 (0, 0)) := by
    have := heap_alloc2_old ((w5.alloc (.cells #[.slice (some ⟨g5, 0, none⟩) m5 c5] 23)).alloc (.cells #[.slice (some ⟨w5.heap.size, 0, none⟩) 1 1] 129)) (.cells #[.slice da dn dc] 23) (.cells #[.int .i64 512] 3)
    rw [hw7]
    simpa using this
  have hhn : w7.heap[w5.heap.size + 3]? = some (.cells #[.int .i64 512] 3 (0, 0)) := by
    have := heap_alloc2_new ((w5.alloc (.cells #[.slice (some ⟨g5, 0, none⟩) m5 c5] 23)).alloc (.cells #[.slice (some ⟨w5.heap.size, 0, none⟩) 1 1] 129)) (.cells #[.slice da dn dc] 23) (.cells #[.int .i64 512] 3)
    rw [hw7]
    simpa using this
  clear hw7
  have h5w : w.heap.size ≤ w5.heap.size := (HX0.out.trans' HX5.out).size
  have HX57 := hid hx57
  have HH0 := hid hh0
  have HHB := hid hhb
  have HHS := hid hhs
  have HHN := hid hhn
  have HZ7 := hid hz7
  have H5W := hid h5w
  clear hx57 hh0 hhb hhs hhn hz7 h5w ca5 cb5 cc5 cd5
  obtain ⟨b, o, hab⟩ : ∃ b o, 0 < dn → da = some ⟨b, o, none⟩ := by
    by_cases h0 : 0 < dn
    · obtain ⟨b, o, e, -⟩ := HD.out.at_ h0
      exact ⟨b, o, fun _ => e⟩
    exact ⟨0, 0, fun h => absurd h h0⟩
  have HAB := hid hab
  have hcs : w7.cell? ⟨w5.heap.size + 2, 0, none⟩ = some (.slice da dn dc) := by simp [World.cell?, HHS.out]
  have hcn : w7.cell? ⟨w5.heap.size + 3, 0, none⟩ = some (.int .i64 512) := by simp [World.cell?, HHN.out]
  have HD7 := hid (HD.out.below (HX0.out.trans' (HX5.out.trans' HX57.out)))
  have hseq := chunk_stops (3 - 1) (by omega) (w5.heap.size + 2) (w5.heap.size + 3) dn dc da F w7 d HD7.out (by omega) b o hab hcs hcn
  have HSEQ := hid hseq
  have hown : OwnFrom w7.heap.size (PartI w.heap.size (w5.heap.size + 1) w5.heap.size w7 (.slice (some ⟨g5, 0, none⟩) m5 c5) (chunkV b o dn)) := PartI.own (by have := HZ7.out; omega)
  have h00 : PartI w.heap.size (w5.heap.size + 1) w5.heap.size w7 (.slice (some ⟨g5, 0, none⟩) m5 c5) (chunkV b o dn) [] w7 :=
    ⟨some ⟨w5.heap.size, 0, none⟩, 1, 1, HHB.out, ⟨rfl, .inr ⟨w5.heap.size, 1, _, rfl, H5W.out, HH0.out, Nat.le_refl _, by unfold maxLen; omega, rfl, rfl⟩⟩, (fun q hq => by injection hq with hq; exact .inl hq.symm), Frm.refl _ _⟩
  have HOWN := hid hown
  have H00 := hid h00
  clear hab hcs hcn hseq hown h00
  go_wp2
  refine (wpIn_wide (n := 3)).1 ?_
  refine wpIn_rangeFunc_ownG (F := Fence.wide) (n := 3) rfl (by omega) (gf := 131) (lb := #[.pointer (some ⟨w5.heap.size + 2, 0, none⟩), .pointer (some ⟨w5.heap.size + 3, 0, none⟩)]) rfl trivial (enters_of Tryz.func131 (by kernel_rfl) rfl)
    HSEQ.out (fun h k => h.t k) (fun W l o o' hl hq hc hw => ⟨?kb1, ?kb2⟩) (Below.refl _ _) (fun _ => rfl)
    (PartI w.heap.size (w5.heap.size + 1) w5.heap.size w7 (.slice (some ⟨g5, 0, none⟩) m5 c5) (chunkV b o dn)) (fun _ _ _ => False) HOWN.out (fun _ _ _ _ _ hs _ _ => hs) H00.out ?a1 ?assign ?body ?done ?stop
  case assign =>
    intro l x W K hK
    gi_wp2
    exact hK
  case kb1 => exact (grownBy_putObj' W l o').block _ (by have := (Array.getElem?_eq_some_iff.1 hq).1; have := HZ7.out; omega) (fun e => by cases e; have := HZ7.out; omega)
  case kb2 => exact (grownBy_putObj' W l o').block _ (by have := (Array.getElem?_eq_some_iff.1 hq).1; have := HZ7.out; omega) (fun e => by cases e; have := HZ7.out; omega)
  case body =>
    rintro l pre x W ⟨pa, pn, pc, p1, p2, p3, p4⟩ hlenN
    obtain ⟨cb, cm, hcm⟩ : ∃ cb cm, chunkV b o dn x = .slice (some ⟨b, cb, none⟩) cm cm := ⟨_, _, rfl⟩
    have hcb : W.cell? ⟨w5.heap.size + 1, 0, none⟩ = some (.slice pa pn pc) := by simp [World.cell?, p1]
    have hfb : W.frozen? ⟨w5.heap.size + 1, 0, none⟩ = false := by simp [World.frozen?, p1]
    have hlb : w5.heap.size + 1 < W.heap.size := (Array.getElem?_eq_some_iff.1 p1).1
    have hcells : ∀ q, (Value.slice pa pn pc).ownBlock = some q → ∃ cur t z, W.heap[q]? = some (.cells cur t z) := fun q hq => (own_cells p2 hq).2
    have hown2 : (W.alloc (.cells #[.slice (some ⟨b, cb, none⟩) cm cm] 23)).ownsRow w.heap.size 23 1 (.slice pa pn pc) (1 + pre.length) (.slice (some ⟨g5, 0, none⟩) m5 c5 :: pre.map (chunkV b o dn)) :=
      own_keep p2 fun q hq => Below.heap_alloc _ _ _ (own_cells p2 hq).1
    have hcc : (W.alloc (.cells #[.slice (some ⟨b, cb, none⟩) cm cm] 23)).cell? ⟨W.heap.size, 0, none⟩ = some (.slice (some ⟨b, cb, none⟩) cm cm) := by unfold World.cell?; rw [heap_alloc_new]; rfl
    have hpl : pre.length ≤ 1000 := by have := hlenN; omega
    have hwb : w.heap.size ≤ (W.alloc (.cells #[.slice (some ⟨b, cb, none⟩) cm cm] 23)).heap.size := by have := p4.size; have := HZ7.out; have := H5W.out; simp; omega
    have HCM := hid hcm
    have HCELLS := hid hcells
    have HOWN2 := hid hown2
    have HCC := hid hcc
    have HWB := hid hwb
    have P1 := hid p1
    have P3 := hid p3
    have P4 := hid p4
    rw [hcm]
    clear hcm hcells hown2 hcc hwb p1 p2 p3 p4
    gi_wp2_with (gi_at_builtin; refine wpListIn_appOne rfl (.tmp 42) (.tmp 44) rfl w.heap.size (.slice pa pn pc) (1 + pre.length) _ rfl HOWN2.out W.heap.size rfl (some ⟨b, cb, none⟩) cm cm HCC.out (by omega) HWB.out ?_; intro v' w8 q1 q2 q4; obtain ⟨va8, vc8, hv8⟩ := own_slice2 q1; subst hv8; have hgb8 := gb_same P1.out P3.out P4.out q2 (by have := HZ7.out; omega) (by omega); obtain ⟨hc8, hf8, hl8⟩ := hgb8; have Q1 := hid q1; have Q2 := hid q2; have Q4 := hid q4; clear q1 q2 q4)
    have e1 : 1 + (pre ++ [x]).length = 1 + pre.length + 1 := by simp; omega
    have e2 : (Value.slice (some ⟨g5, 0, none⟩) m5 c5 :: (pre ++ [x]).map (chunkV b o dn)) = (Value.slice (some ⟨g5, 0, none⟩) m5 c5 :: pre.map (chunkV b o dn)) ++ [.slice (some ⟨b, cb, none⟩) cm cm] := by simp [HCM.out]
    have hz := HZ7.out
    exact PartI.step P1.out P3.out P4.out x (by rw [e1, e2]; exact Q1.out) Q2.out Q4.out (by omega) (by omega) (by omega) (by omega) (by omega) (by omega) (by omega) (by omega) (by omega) HCELLS.out
  case done =>
    rintro D ys W hD rfl hI hK
    have hz := HZ7.out
    have hhd : ByF (fun q => q ≠ w5.heap.size ∧ q ≠ w5.heap.size + 1) w7 (some ⟨g5, 0, none⟩) m5 c5 (headS ⟨i, t, vs, d⟩) := by
      have hb := (HB6.out.lt.below HX57.out).more (G := fun q => q ≠ w5.heap.size ∧ q ≠ w5.heap.size + 1) fun q hq => by have := hq.2; omega
      have e : headS ⟨i, t, vs, d⟩ = numS i ++ numS t ++ numS (k : Int) ++ (vs.map numS).flatten ++ numS (dn : Int) := by unfold headS; rw [HN1.out, HN2.out]
      rw [e]; exact hb
    have hdd : ByF (fun q => q ≠ w5.heap.size ∧ q ≠ w5.heap.size + 1) w7 da dn dc d := (HD.out.lt.below (HX0.out.trans' (HX5.out.trans' HX57.out))).more fun q hq => by have := hq.2; have := H5W.out; omega
    obtain ⟨ra, rn, rc, r1, r2, r3, r4⟩ := PartI.row hI hhd hdd HAB.out
    have hxW : Ext w W := ext_frm (HX0.out.trans' (HX5.out.trans' HX57.out)) r4 fun q hq => by have := H5W.out; rcases hq with h | h <;> omega
    obtain ⟨L, hL⟩ : ∃ L, L = headS ⟨i, t, vs, d⟩ :: chunksB d := ⟨_, rfl⟩
    rw [← hL] at r2
    have hform := r2.form
    rcases hform with ⟨-, e⟩ | ⟨g9, c9, e9, -, hg9⟩
    · rw [hL] at e; cases e
    injection e9 with i1 i2 i3
    subst i1; subst i2; subst i3
    have hne9 : g9 ≠ w5.heap.size + 1 := by rcases r3 g9 rfl with h | h <;> omega
    have hLall : ∀ q ∈ L, q.length ≤ 65536 := by
      intro q hq
      rw [hL] at hq
      rcases List.mem_cons.1 hq with rfl | hq
      · have := headS_len (s := ⟨i, t, vs, d⟩) hvs; omega
      unfold chunksB at hq
      obtain ⟨k2, -, rfl⟩ := List.mem_map.1 hq
      have := chunkB_len d k2; omega
    have hLN : L.length ≤ 1000 := by rw [hL]; simp [chunksB]; omega
    obtain ⟨N, hN⟩ : ∃ N, N = L.length := ⟨_, rfl⟩
    rw [← hN] at r1 r2
    have hcb : W.cell? ⟨w5.heap.size + 1, 0, none⟩ = some (.slice (some ⟨g9, 0, none⟩) N rc) := by simp [World.cell?, r1]
    have hNb : N ≤ 1000 := by omega
    have hM0 : L = (L.take 0).map recB ++ L.drop 0 := by simp
    have R2 := hid (show OwnR w.heap.size W (.slice (some ⟨g9, 0, none⟩) N rc) ((L.take 0).map recB ++ L.drop 0) by rw [← hM0]; exact r2)
    have R1 := hid r1
    have HXW := hid hxW
    have HLL := hid hL
    have HNN := hid hN
    have HLA := hid hLall
    have HK := hid hK
    have HD9 := hid hD
    clear hhd hdd r1 r2 r3 r4 hI hL hM0 hN hLall hLN hK hD hxW hz
    go_wp2
    go_loopw [8, 9, 48, 53] (fun _ _ z _ wr => ∃ (j : Nat), j ≤ N ∧ z = .int .i64 (j : Int) ∧ Hid (OwnR w.heap.size wr (.slice (some ⟨g9, 0, none⟩) N rc) ((L.take j).map recB ++ L.drop j)) ∧ Hid (wr.heap[w5.heap.size + 1]? = some (.cells #[.slice (some ⟨g9, 0, none⟩) N rc] 129 (0, 0))) ∧ Hid (Ext w wr) ∧ Hid (wr.heap[D]? = some (.deferred (some []))) ∧ Hid (FreshR w.heap.size g9 wr L j) ∧ wr.cell? ⟨w5.heap.size + 1, 0, none⟩ = some (.slice (some ⟨g9, 0, none⟩) N rc)) (fun _ _ z _ _ => N - (intOf z).toNat)
    case atStart => exact ⟨0, Nat.zero_le _, rfl, R2.out, R1.out, HXW.out, HK.out, (fun k _ h => absurd h (Nat.not_lt_zero k)), hcb⟩
    obtain ⟨j, hj, rfl, RO, RB, RX, RK, RF, hcb2⟩ := hrel
    by_cases hlt2 : j < N
    · have hjL : j < L.length := by rw [← HNN.out]; exact hlt2
      have hml : ((L.take j).map recB ++ L.drop j).length = N := by simp; have := HNN.out; omega
      have htl : ((L.take j).map recB).length = j := by simp; omega
      obtain ⟨ea, en, em, hce, hfe, hbe⟩ := RO.out.cell_ (k := j) (by rw [hml]; exact hlt2)
      have hel : ((L.take j).map recB ++ L.drop j)[j]'(by rw [hml]; exact hlt2) = L[j] := by
        rw [List.getElem_append_right (by rw [htl]; exact Nat.le_refl _)]
        simp only [htl, Nat.sub_self, List.getElem_drop, Nat.add_zero]
      rw [hel] at hbe
      have hlen := HLA.out L[j] (List.getElem_mem _)
      have hREC := fun W2 (hW : Ext wr W2) => Record_any (hbe.below hW) (by rw [hbe.1]; exact hlen)
      have HREC := hid hREC
      have hset : ((L.take j).map recB ++ L.drop j).set j (recB L[j]) = (L.take (j + 1)).map recB ++ L.drop (j + 1) := by
        rw [List.set_append_right _ _ (by rw [htl]; exact Nat.le_refl _), htl, Nat.sub_self, List.drop_eq_getElem_cons hjL, List.set_cons_zero, List.take_succ_eq_append_getElem hjL, List.map_append, List.append_assoc]
        rfl
      have HSET := hid hset
      have hnx : ∀ W2, Ext wr W2 → (W2.cell? ⟨w5.heap.size + 1, 0, none⟩ = some (.slice (some ⟨g9, 0, none⟩) N rc) ∧ W2.cell? ⟨g9, j, none⟩ = some (.slice ea en em) ∧ W2.frozen? ⟨g9, j, none⟩ = false ∧ g9 < W2.heap.size) := fun W2 hW =>
        have hl1 := World.block_lt_of_cell? wr _ hcb2
        have hl2 := World.block_lt_of_cell? wr _ hce
        ⟨(hW.cell (p := ⟨w5.heap.size + 1, 0, none⟩) hl1).trans hcb2, (hW.cell (p := ⟨g9, j, none⟩) hl2).trans hce, (hW.frozen (p := ⟨g9, j, none⟩) hl2).trans hfe, Nat.lt_of_lt_of_le hl2 hW.size⟩
      have HNX := hid hnx
      have HML := hid hml
      have hg9w : g9 < wr.heap.size := World.block_lt_of_cell? wr ⟨g9, j, none⟩ hce
      clear hml htl hbe hel hlen hREC hset hnx
      go_wp2
      have hji : (0 : Int) ≤ (j : Int) := by omega
      have hji2 : (j : Int) < (N : Int) := by omega
      go_region_held3 (fun W => W.cell? ⟨w5.heap.size + 1, 0, none⟩ = some (.slice (some ⟨g9, 0, none⟩) N rc))
        (first | exact (HNX.out _ (ext_drew _)).1 | exact f1 | exact (World.cell?_setCell_other _ _ _ _ (fun e => hne9 (congrArg Addr.block e).symm)).trans f1 | exact (World.cell?_setCell_other _ _ _ _ (fun e => hne9 (congrArg Addr.block e))).trans f1)
        (first | (go_at_call 110; refine Calls.mono (HREC.out _ (by first | exact ext_drew _ | exact Below.refl _ _)) ?_; rintro e w6 ⟨g6, n6, c6, rfl, hown6, hx6⟩; have hx6' : Ext wr w6 := (by first | exact (ext_drew _).trans' hx6 | exact hx6); obtain ⟨f1, f2, f3, f4⟩ := HNX.out w6 hx6'; have HO6 := hid hown6; have HX6 := hid hx6'; clear hown6 hx6 hx6'))
      have hz6 : wr.heap.size ≤ w6.heap.size := HX6.out.size
      go_wp2
      have hM := HNN.out
      have hn6 : n6 ≤ 140737488351232 := by
        have h1 := HO6.out.1
        rw [recB_len] at h1
        have h2 := HLA.out L[j] (List.getElem_mem _)
        have h3 := (numB_len L[j].length).2
        omega
      have hd6 : ByF (fun q => q ≠ g9) w6 (some ⟨g6, 0, none⟩) n6 c6 (recB L[j]) := (HO6.out.by_ hn6).more fun q hq => by
        have : wr.heap.size ≤ q := hq.1
        omega
      have hB9 : w.heap.size ≤ g9 := by
        rcases RO.out.form with ⟨e, -⟩ | ⟨g', c', e, h1, -⟩
        · cases e
        injection e with e; injection e with e; injection e with e; subst e; exact h1
      refine ⟨⟨j + 1, by omega, by go_num, ?_, ?_, ?_, ?_, ?_, ?_⟩, ?_⟩
      · refine hid ?_
        have := (RO.out.ext HX6.out).set_ (k := j) (by rw [HML.out]; exact hlt2) hd6
        rw [HSET.out] at this
        exact this
      · exact hid ((heap_setCell_other _ _ _ _ (by show w5.heap.size + 1 ≠ g9; omega)).trans ((HX6.out.block _ (Array.getElem?_eq_some_iff.1 RB.out).1).trans RB.out))
      · exact hid ((RX.out.trans' HX6.out).setCell hB9 _)
      · refine hid ((heap_setCell_other _ _ _ _ ?_).trans ((HX6.out.block _ (Array.getElem?_eq_some_iff.1 RK.out).1).trans RK.out))
        obtain ⟨cur, t, z, hc⟩ := cells_of_cell f2
        have hd := (HX6.out.block _ (Array.getElem?_eq_some_iff.1 RK.out).1).trans RK.out
        intro e
        have e := (show D = g9 from e)
        subst e
        rw [hc] at hd; cases hd
      · exact hid (RF.out.step HX6.out (by have := HNN.out; omega) ((HO6.out.by_ hn6).more fun q hq => by
          have h1 : wr.heap.size ≤ q := hq.1
          have h2 := RX.out.size
          exact ⟨by omega, by omega⟩) f2)
      · exact (World.cell?_setCell_other _ _ _ _ (by first | exact fun e => hne9 (congrArg Addr.block e).symm | exact fun e => hne9 (congrArg Addr.block e))).trans f1
      simp [intOf]; omega
    obtain rfl : j = N := by omega
    have hM : (L.take j).map recB ++ L.drop j = partsB ⟨i, t, vs, d⟩ := by
      rw [List.take_of_length_le (by rw [HNN.out]; exact Nat.le_refl _), List.drop_of_length_le (by rw [HNN.out]; exact Nat.le_refl _), List.append_nil, HLL.out]
      rfl
    have hro := RO.out
    rw [hM] at hro
    have RO2 := hid hro
    have hB9 : w.heap.size ≤ g9 := by
      rcases RO.out.form with ⟨e, -⟩ | ⟨g', c', e, h1, -⟩
      · cases e
      injection e with e; injection e with e; injection e with e; subst e; exact h1
    have hPB : L.map recB = partsB ⟨i, t, vs, d⟩ := by rw [HLL.out]; rfl
    have HB9 := hid hB9
    have HPB := hid hPB
    clear hro hM hB9 hPB
    go_wp2
    refine ⟨by simp, .inl ⟨_, _, rfl, run_takeDeferred RK.out, ?_⟩⟩
    refine ⟨_, results_tmp rfl _ _ _, _, _, _, rfl, RO2.out.keepc (put_deferred RK.out), RX.out.trans (belowK_b (w := w) (Nat.le_refl _) wr D _ _ ?_ RK.out rfl rfl), ?_⟩
    · have := HD9.out; have := HZ7.out; have := H5W.out; omega
    have hb2 := (RO2.out.keepc (put_deferred (o := .deferred none) RK.out)).bs (by rw [← HPB.out, List.length_map, ← HNN.out]; omega)
    rw [← HPB.out] at hb2 ⊢
    exact (RF.out.keepc (put_deferred RK.out)).bs HNN.out HB9.out hb2
  case stop =>
    rintro D c pre W _ _ h _
    exact h.elim
end Go.Proofs.YtjapeaoebjmpnaaGreatDoor
