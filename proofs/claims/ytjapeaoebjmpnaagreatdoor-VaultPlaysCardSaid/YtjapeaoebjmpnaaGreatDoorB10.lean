/- What reading a state's file leads to: plain; ints of the call's own. -/
import Derived.Test.YtjapeaoebjmpnaaGreatDoorB09
import Derived.Lib.BufferRead
import Derived.Laws.IdiomStrings
import Derived.Deep.RegionHeld3
import Derived.Laws.ResultCell
namespace Go.Proofs.YtjapeaoebjmpnaaGreatDoor
open Go.RowKit Go.Maps
set_option linter.unusedVariables false
set_option linter.unusedSimpArgs false

theorem rdB_bound : ∀ (b : By) (i acc : Nat), acc < 128 ^ i → i ≤ 9 → (rdB i acc b).1 < 9223372036854775808 ∧ ((rdB i acc b).2.2 = 0 → i + 1 ≤ (rdB i acc b).2.1 ∧ (rdB i acc b).2.1 ≤ i + b.length) := by
  intro b
  induction b with
  | nil => intro i acc _ _; exact ⟨by simp [rdB], fun h => by simp [rdB] at h⟩
  | cons x r ih =>
    intro i acc hacc hi
    by_cases h1 : i = 0 ∧ x = 128
    · have e : rdB i acc (x :: r) = (0, 0, 10) := by show (if _ then _ else _) = _; rw [if_pos h1]
      rw [e]; exact ⟨by simp, fun h => by cases h⟩
    by_cases h2 : i = 9
    · have e : rdB i acc (x :: r) = (0, 0, 5) := by show (if _ then _ else if _ then _ else _) = _; rw [if_neg h1, if_pos h2]
      rw [e]; exact ⟨by simp, fun h => by cases h⟩
    rw [rdB_step h1 h2]
    have hpow : acc * 128 + x.toNat % 128 < 128 ^ (i + 1) := by
      rw [Nat.pow_succ]
      have : acc + 1 ≤ 128 ^ i := hacc
      have := Nat.mul_le_mul_right 128 this
      omega
    have h63 : (128 : Nat) ^ (i + 1) ≤ 128 ^ 9 := Nat.pow_le_pow_right (by omega) (by omega)
    have e63 : (128 : Nat) ^ 9 = 9223372036854775808 := by decide
    by_cases h3 : x < 128
    · rw [if_pos h3]
      exact ⟨by show acc * 128 + x.toNat % 128 < _; omega, fun _ => ⟨Nat.le_refl _, by show i + 1 ≤ i + (x :: r).length; simp⟩⟩
    rw [if_neg h3]
    obtain ⟨q1, q2⟩ := ih (i + 1) _ hpow (by omega)
    refine ⟨q1, fun h => ?_⟩
    have := q2 h
    simp only [List.length_cons]
    omega
theorem readB_bound (b : By) : (readB b).1 < 9223372036854775808 ∧ ((readB b).2.2 = 0 → 1 ≤ (readB b).2.1 ∧ (readB b).2.1 ≤ b.length) := by
  obtain ⟨h1, h2⟩ := rdB_bound b 0 0 (by simp) (by omega)
  exact ⟨h1, fun h => by have := h2 h; unfold readB; omega⟩
/-- Each number is one of int's kind; the scan goes on, or stops. -/
theorem Sc.num_bound (s : Sc) (h : s.at_ ≤ s.b.length) : s.num.1 < 9223372036854775808 ∧ s.num.2.b = s.b ∧ s.num.2.at_ ≤ s.b.length ∧ s.at_ ≤ s.num.2.at_ ∧ (s.num.2.err = 0 → s.err = 0 ∧ s.at_ + 1 ≤ s.num.2.at_) := by
  unfold Sc.num
  by_cases he : s.err ≠ 0
  · rw [if_pos he]
    exact ⟨by simp, rfl, h, Nat.le_refl _, fun h => absurd h he⟩
  rw [if_neg he]
  obtain ⟨q1, q2⟩ := readB_bound (s.b.drop s.at_)
  unfold Sc.numV
  by_cases hz : (readB (s.b.drop s.at_)).2.2 ≠ 0
  · rw [if_pos hz]
    exact ⟨by simp, rfl, h, Nat.le_refl _, fun h => absurd h hz⟩
  rw [if_neg hz]
  have := q2 (by simpa using hz)
  rw [List.length_drop] at this
  exact ⟨q1, rfl, by show s.at_ + _ ≤ _; omega, by show s.at_ ≤ s.at_ + _; omega, fun _ => ⟨by simpa using he, by show s.at_ + 1 ≤ s.at_ + _; omega⟩⟩
/-- A number that stands there. -/
theorem Sc.num_at {s : Sc} {x : Int} {r : By} (he : s.err = 0) (h : s.b.drop s.at_ = numS x ++ r) (h0 : 0 ≤ x) (h1 : x < 9223372036854775808) :
    (s.num.1 : Int) = x ∧ s.num.2.err = 0 ∧ s.num.2.b = s.b ∧ s.num.2.b.drop s.num.2.at_ = r := by
  obtain ⟨N, rfl⟩ : ∃ N : Nat, x = N := ⟨x.toNat, by omega⟩
  have e : numS (N : Int) = numB N := by unfold numS; congr 1; omega
  rw [e] at h
  have hr := readB_num (n := N) (by omega) r
  rw [← h] at hr
  unfold Sc.num
  rw [if_neg (by simp [he])]
  unfold Sc.numV
  rw [hr, if_neg (by simp)]
  refine ⟨rfl, he, rfl, ?_⟩
  show s.b.drop (s.at_ + (numB N).length) = r
  rw [← List.drop_drop, h, List.drop_left]
theorem chunks_flat : ∀ (m : Nat) (d : By), d.length ≤ 512 * m → ((List.range m).map (chunkB d)).flatten = d := by
  intro m
  induction m with
  | zero => intro d h; have : d = [] := List.eq_nil_of_length_eq_zero (by omega); rw [this]; rfl
  | succ m ih =>
    intro d h
    rw [List.range_succ_eq_map, List.map_cons, List.flatten_cons, List.map_map]
    have e : (List.range m).map (chunkB d ∘ Nat.succ) = (List.range m).map (chunkB (d.drop 512)) := by
      apply List.map_congr_left
      intro k _
      show chunkB d (k + 1) = chunkB (d.drop 512) k
      unfold chunkB
      rw [List.drop_drop, Nat.mul_succ, Nat.add_comm]
    rw [e, ih (d.drop 512) (by rw [List.length_drop]; omega)]
    unfold chunkB
    rw [Nat.mul_zero, List.drop_zero, List.take_append_drop]
theorem chunksB_flat (d : By) : (chunksB d).flatten = d := chunks_flat _ d (by omega)
theorem rowsS_len {s : Sn} (h : s.vs.length ≤ 7) : ∀ q ∈ rowsS s, q.length ≤ 65536 := by
  intro q hq
  unfold rowsS at hq
  rcases List.mem_cons.1 hq with rfl | hq
  · have := headS_len h; omega
  unfold chunksB at hq
  obtain ⟨k2, -, rfl⟩ := List.mem_map.1 hq
  have := chunkB_len s.d k2; omega
theorem rowsB_file {s : Sn} (h : checkS s = 0) : rowsB (fileB s) = (rowsS s, (fileB s).length) := rowsB_recs _ (rowsS_len (checkS_ok h).2.2.2.1)

theorem pickB_len {b : By} (h : (pickB b).2.2 = 0) : (pickB b).1.length + 5 ≤ (pickB b).2.1 ∧ (pickB b).1.length ≤ 65536 := by
  cases b with
  | nil => cases h
  | cons x r =>
    unfold pickB at h ⊢
    dsimp only at h ⊢
    split at h
    · cases h
    rename_i h1
    rw [if_neg h1]
    split at h
    · rename_i h2; exact absurd h h2
    rename_i h2
    rw [if_neg h2]
    split at h
    · cases h
    rename_i h3
    rw [if_neg h3]
    split at h
    · cases h
    rename_i h4
    rw [if_neg h4]
    split at h
    · cases h
    rename_i h5
    rw [if_neg h5]
    dsimp only
    rw [List.length_take]
    omega
theorem rowsB_bound : ∀ (m : Nat) (b : By), b.length ≤ m → (rowsB b).1.length ≤ (rowsB b).2 ∧ (rowsB b).2 ≤ b.length ∧ (∀ p ∈ (rowsB b).1, p.length ≤ 65536) ∧ (rowsB b).1.flatten.length ≤ b.length := by
  intro m
  induction m with
  | zero =>
    intro b hb
    have : b = [] := List.eq_nil_of_length_eq_zero (by omega)
    subst this
    have e : rowsB [] = ([], 0) := rfl
    rw [e]
    exact ⟨Nat.le_refl _, Nat.le_refl _, (fun p hp => by cases hp), Nat.le_refl _⟩
  | succ m ih =>
    intro b hb
    rw [rowsB_eq]
    by_cases hp : (pickB b).2.2 ≠ 0
    · rw [if_pos hp]
      exact ⟨Nat.le_refl _, Nat.zero_le _, (fun p hp => by cases hp), Nat.zero_le _⟩
    rw [if_neg hp]
    have h0 : (pickB b).2.2 = 0 := by simpa using hp
    obtain ⟨o1, o2⟩ := pickB_ok h0
    obtain ⟨o3, o4⟩ := pickB_len h0
    obtain ⟨i1, i2, i3, i4⟩ := ih (b.drop (pickB b).2.1) (by rw [List.length_drop]; omega)
    rw [List.length_drop] at i2 i4
    refine ⟨by simp only [List.length_cons]; omega, by dsimp only; omega, fun p hp2 => ?_, by simp only [List.flatten_cons, List.length_append]; omega⟩
    rcases List.mem_cons.1 hp2 with rfl | hp2
    · exact o4
    exact i3 p hp2

/-! ### ints of the call's own -/
def OwnI (B : Nat) (w : World) (v : Value) (l : List Int) : Prop := w.ownsRow B 3 1 v l.length (l.map (Value.int .i64))
theorem info_int : (Tryz.prog.info? 3).map (fun i => (i.zero, i.size, i.bytes)) = some (some (.int .i64 0), 1, 8) := by kernel_rfl
theorem OwnI.isf {B : Nat} {w : World} {a : Option Addr} {n c : Nat} {l : List Int} (h : OwnI B w (.slice a n c) l) (hl : l.length ≤ 1000000000000) (hin : ∀ x ∈ l, In64 x) : IsF (fun q => (Value.slice a n c).ownBlock = some q) w a n c l := by
  obtain ⟨e0, ⟨e1, e2⟩ | ⟨g, cap, cur, e1, e2, e3, e4, e5, e6, e7⟩⟩ := h
  · injection e1 with i1 i2 i3
    subst i1; subst i2; subst i3
    have : l = [] := List.eq_nil_of_length_eq_zero e2
    subst this
    exact IsF.nil_ _ _
  injection e1 with i1 i2 i3
  subst i1; subst i2; subst i3
  refine ⟨rfl, e4, ⟨e5, by omega⟩, (fun e => by cases e), hin, fun p hp => ?_⟩
  cases hp
  refine ⟨fun _ => rfl, fun k hk => ⟨rfl, ?_⟩⟩
  have hq := congrArg (fun l => l[k]?) e7
  simp only [List.getElem?_take, Nat.mul_one] at hq
  rw [if_pos hk, List.getElem?_map, List.getElem?_eq_getElem hk] at hq
  unfold World.cell?
  simp only [e3, Nat.zero_add]
  simpa [Array.getElem?_toList] using hq
theorem checkS_vals (s : Sn) : checkS s = 0 ∨ checkS s = 4 ∨ checkS s = 60 := by
  unfold checkS
  split
  · exact .inr (.inr rfl)
  split
  · exact .inr (.inl rfl)
  exact .inl rfl

/-! ### all rows but the first -/
theorem elem_sl (W : World) : (sizeOf (Tryz.prog.elem 129)).run Tryz.prog W = .ok 1 W := by kernel_rfl
theorem under_sl : Tryz.prog.underlying 129 = some (.slice (Tryz.prog.elem 129)) := by kernel_rfl
theorem bs_tail {F : Nat → Prop} {w : World} {a : Option Addr} {n c : Nat} {hd : By} {tl : List By} (h : BsF F w a n c (hd :: tl)) :
    ∃ a' m k, (∀ W, (Instr.slice 129 (.slice a n c) (some (.int .i64 1)) none none).run Tryz.prog W = .ok (.slice a' m k) W) ∧
      (∀ W, (Instr.sliceAt 129 (.slice a n c) (some (.int .i64 1)) none none).run Tryz.prog W = .ok (.slice a' m k) W) ∧ BsF F w a' m k tl := by
  obtain ⟨h1, h2, h3, h4, h5⟩ := h
  have hn : n = tl.length + 1 := h1
  have hr : ∀ W, (Instr.slice 129 (.slice a n c) (some (.int .i64 1)) none none).run Tryz.prog W = .ok (sliced a 1 n c 1) W := fun W => by
    rw [run_slice_l W 129 a n c under_sl .i64 1 (by omega) (by omega), elem_sl]
    rfl
  refine ⟨_, _, _, hr, fun W => (run_sliceAt_slice W _ _ _ _ _ under_sl).trans (hr W), ?_⟩
  refine ⟨by omega, by omega, ⟨by omega, by omega⟩, fun e => ?_, fun p hp => ?_⟩
  · split at e
    · omega
    cases a with
    | none => have := h4 rfl; omega
    | some p => cases e
  split at hp
  · rename_i e
    refine ⟨fun hc => by omega, fun k hk => by omega⟩
  cases a with
  | none => cases hp
  | some q =>
    obtain ⟨h6, h7⟩ := h5 q rfl
    obtain ⟨qb, qo, qs⟩ := q
    obtain rfl : qs = none := h6 (by omega)
    cases hp
    refine ⟨fun hc => rfl, fun k hk => ?_⟩
    obtain ⟨f, a', n', c', e1, e2⟩ := h7 (k + 1) (by simp; omega)
    refine ⟨f, a', n', c', ?_, e2⟩
    rw [← e1]
    show w.cell? ⟨qb, qo + 1 * 1 + k, none⟩ = w.cell? ⟨qb, qo + (k + 1), none⟩
    rw [show qo + 1 * 1 + k = qo + (k + 1) by omega]
theorem OwnI.any {B : Nat} {w w' : World} {a : Option Addr} {n c : Nat} {l : List Int} (h : OwnI B w (.slice a n c) l) (hl : l.length ≤ 1000000000000) (hin : ∀ x ∈ l, In64 x) (hk : ∀ q, (Value.slice a n c).ownBlock = some q → w'.heap[q]? = w.heap[q]?) {G : Nat → Prop} (hG : ∀ q, (Value.slice a n c).ownBlock = some q → G q) : IsF G w' a n c l :=
  (h.isf hl hin).keep fun q hq _ => ⟨hG q hq, hk q hq⟩
/-- 'string(b)'. -/
theorem conv_str {F : Nat → Prop} {W : World} {a : Option Addr} {n c : Nat} {d : By} (h : ByF F W a n c d) : (convert 23 9 (.slice a n c)).run Tryz.prog W = .ok (.string ⟨d.toArray⟩) W := by
  cases a with
  | none =>
    have hc : c = 0 := h.2.2.2.1 rfl
    have hn : n = 0 := by have := h.2.1; omega
    subst hc; subst hn
    have : d = [] := List.eq_nil_of_length_eq_zero h.1.symm
    subst this
    exact Lib.run_convert_nil_bytes (P := Tryz.prog) W 23 9 5 0 Tryz.underlying23 Tryz.underlying5 Tryz.underlying9
  | some p =>
    obtain ⟨hnd, hrest⟩ := h
    subst hnd
    have h : ByF F W (some p) d.length c d := ⟨rfl, hrest⟩
    refine run_convert_bytes_back W 23 9 5 p c d Tryz.underlying23 Tryz.underlying5 Tryz.underlying9 fun j hj => ?_
    obtain ⟨h6, h7⟩ := h.2.2.2.2 p rfl
    obtain ⟨pb, po, ps⟩ := p
    obtain rfl : ps = none := h6 (by have := h.2.1; omega)
    have hadd : (⟨pb, po, none⟩ : Addr).add j = ⟨pb, po + j, none⟩ := by
      unfold Addr.add
      split
      · rename_i e; rw [e]; rfl
      rfl
    rw [hadd]
    exact (h7 j hj).2
end Go.Proofs.YtjapeaoebjmpnaaGreatDoor

/- What a vault does: plain. -/
namespace Go.Proofs.YtjapeaoebjmpnaaGreatDoor
open Go.RowKit Go.Maps
set_option linter.unusedVariables false
set_option linter.unusedSimpArgs false

theorem numS_inj {x y : Int} {r r' : By} (hx : 0 ≤ x) (hx2 : x < 9223372036854775808) (hy : 0 ≤ y) (hy2 : y < 9223372036854775808) (h : numS x ++ r = numS y ++ r') : x = y ∧ r = r' := by
  obtain ⟨a1, -, -, a4⟩ := Sc.num_at (s := ⟨numS x ++ r, 0, 0⟩) rfl (by rw [List.drop_zero]) hx hx2
  obtain ⟨b1, -, -, b4⟩ := Sc.num_at (s := ⟨numS x ++ r, 0, 0⟩) rfl (by rw [List.drop_zero]; exact h) hy hy2
  exact ⟨a1.symm.trans b1, a4.symm.trans b4⟩
theorem numsS_inj : ∀ {l l' : List Int} {r r' : By}, (∀ x ∈ l, 0 ≤ x ∧ x ≤ 6) → (∀ x ∈ l', 0 ≤ x ∧ x ≤ 6) → l.length = l'.length → (l.map numS).flatten ++ r = (l'.map numS).flatten ++ r' → l = l' ∧ r = r' := by
  intro l
  induction l with
  | nil => intro l' r r' _ _ hl h; cases l' with
    | nil => exact ⟨rfl, h⟩
    | cons y l' => cases hl
  | cons x l ih => intro l' r r' h1 h2 hl h; cases l' with
    | nil => cases hl
    | cons y l' =>
      simp only [List.map_cons, List.flatten_cons, List.append_assoc] at h
      have hx := h1 x (List.mem_cons_self ..)
      have hy := h2 y (List.mem_cons_self ..)
      obtain ⟨e1, e2⟩ := numS_inj (by omega) (by omega) (by omega) (by omega) h
      obtain ⟨e3, e4⟩ := ih (fun z hz => h1 z (List.mem_cons_of_mem _ hz)) (fun z hz => h2 z (List.mem_cons_of_mem _ hz)) (by simpa using hl) e2
      exact ⟨by rw [e1, e3], e4⟩
/-- A file has one state at most. -/
theorem fileB_inj {s s' : Sn} (h : checkS s = 0) (h' : checkS s' = 0) (e : fileB s = fileB s') : s = s' := by
  have r1 := rowsB_file h
  have r2 := rowsB_file h'
  rw [e, r2] at r1
  have r3 := congrArg Prod.fst r1
  change rowsS s' = rowsS s at r3
  unfold rowsS at r3
  injection r3 with r4 r5
  obtain ⟨⟨k1, k2⟩, ⟨k3, k4⟩, -, k5, k6, k7⟩ := checkS_ok h
  obtain ⟨⟨l1, l2⟩, ⟨l3, l4⟩, -, l5, l6, l7⟩ := checkS_ok h'
  have r6 : s'.d = s.d := by rw [← chunksB_flat s.d, ← chunksB_flat s'.d, r5]
  unfold headS at r4
  simp only [List.append_assoc] at r4
  obtain ⟨e1, r4⟩ := numS_inj (by omega) (by omega) (by omega) (by omega) r4
  obtain ⟨e2, r4⟩ := numS_inj (by omega) (by omega) (by omega) (by omega) r4
  obtain ⟨e3, r4⟩ := numS_inj (by omega) (by omega) (by omega) (by omega) r4
  obtain ⟨e4, -⟩ := numsS_inj l6 k6 (by omega) r4
  obtain ⟨i, t, vs, d⟩ := s
  obtain ⟨i', t', vs', d'⟩ := s'
  dsimp only at *
  rw [e1, e2, e4, r6]

open Classical in
/-- The state that a file's bytes are. -/
noncomputable def readS (b : By) : Option Sn := if h : ∃ s, checkS s = 0 ∧ fileB s = b then some (Classical.choose h) else none
theorem readS_ok {s : Sn} (h : checkS s = 0) : readS (fileB s) = some s := by
  unfold readS
  have hx : ∃ s', checkS s' = 0 ∧ fileB s' = fileB s := ⟨s, h, rfl⟩
  rw [dif_pos hx]
  have := Classical.choose_spec hx
  exact congrArg some (fileB_inj this.1 h this.2)
theorem readS_no {b : By} (h : ∀ s, checkS s = 0 → fileB s ≠ b) : readS b = none := by
  unfold readS
  rw [dif_neg (by rintro ⟨s, h1, h2⟩; exact h s h1 h2)]
theorem readS_some {b : By} {s : Sn} (h : readS b = some s) : checkS s = 0 ∧ fileB s = b := by
  unfold readS at h
  split at h
  · rename_i hx
    injection h with h
    rw [← h]
    exact Classical.choose_spec hx
  cases h

def preS : Nm := [115, 110, 97, 112, 46]
/-- The file of a state that is not whole. -/
def freshS : Nm := [115, 110, 97, 112, 46, 110, 101, 119]
def isSnap (n : Nm) : Bool := preS.isPrefixOf n
def sn0 : Sn := ⟨0, 0, [], []⟩
theorem isSnap_name (i : Int) : isSnap (nameB i) = true := by
  unfold isSnap nameB preS
  simp [List.isPrefixOf]
/-- A vault. -/
structure VS where
  s : Sn
  some : Bool
  d : DS
/-- One name of Open's first loop. -/
noncomputable def keepS (d : DS) (k : Sn × Bool) (f : Nm) : Sn × Bool :=
  if isSnap f = true then
    (match readS (d.read f).1 with
    | some s => if f = nameB s.i then (s, true) else k
    | none => k)
  else k
/-- May this name's file go? -/
def goesS (k : Sn × Bool) (f : Nm) : Bool := isSnap f && (!k.2 || !decide (f = nameB k.1.i))
def dropsS (k : Sn × Bool) : List Nm → DS → Int × DS
  | [], d => (0, d)
  | f :: r, d => if goesS k f = true then (if (d.drop f).1 ≠ 0 then d.drop f else dropsS k r (d.drop f).2) else dropsS k r d
noncomputable def kept (d : DS) : Sn × Bool := d.list.foldl (keepS d) (sn0, false)
noncomputable def openS (d : DS) : Int × DS :=
  if (dropsS (kept d) d.list d).1 ≠ 0 then dropsS (kept d) d.list d else (dropsS (kept d) d.list d).2.sync
def layS : Nat → List By → DS → Int × DS
  | _, [], d => (0, d)
  | k, b :: r, d => if (d.write freshS (k : Int) b).1 ≠ 0 then d.write freshS (k : Int) b else layS (k + b.length) r (d.write freshS (k : Int) b).2
/-- Save's three: sync, move, sync. -/
def threeS (d : DS) (n : Nm) : Int × DS :=
  if d.sync.1 ≠ 0 then d.sync
  else if (d.sync.2.move freshS n).1 ≠ 0 then d.sync.2.move freshS n
  else (d.sync.2.move freshS n).2.sync
def saveS (v : VS) (s : Sn) : Int × VS :=
  if checkS s ≠ 0 then (checkS s, v)
  else if v.some = true ∧ s.i ≤ v.s.i then (51, v)
  else if (layS 0 (partsB s) v.d).1 ≠ 0 then
    ((layS 0 (partsB s) v.d).1, ⟨v.s, v.some, if (layS 0 (partsB s) v.d).1 = 7 then ((layS 0 (partsB s) v.d).2.drop freshS).2.sync.2 else (layS 0 (partsB s) v.d).2⟩)
  else if (threeS (layS 0 (partsB s) v.d).2 (nameB s.i)).1 ≠ 0 then
    ((threeS (layS 0 (partsB s) v.d).2 (nameB s.i)).1, ⟨v.s, v.some, (threeS (layS 0 (partsB s) v.d).2 (nameB s.i)).2⟩)
  else if v.some = true then
    (((threeS (layS 0 (partsB s) v.d).2 (nameB s.i)).2.drop (nameB v.s.i)).1, ⟨s, true, ((threeS (layS 0 (partsB s) v.d).2 (nameB s.i)).2.drop (nameB v.s.i)).2⟩)
  else (0, ⟨s, true, (threeS (layS 0 (partsB s) v.d).2 (nameB s.i)).2⟩)
/-- What Piece answers. -/
def pieceS (v : VS) (k : Int) : By × Bool × Int :=
  if v.some = false then ([], false, 60)
  else if k < 0 ∨ (v.s.d.length : Int) < k then ([], false, 61)
  else ((v.s.d.drop k.toNat).take 512, decide ((v.s.d.drop k.toNat).length ≤ 512), 0)
/-- An intake. -/
structure IS where
  i : Int
  t : Int
  d : By
/-- The state of an intake ahead of a piece. -/
def IS.set (s : IS) (i t k : Int) : IS := if k = 0 then ⟨i, t, []⟩ else s
def IS.take (s : IS) (i t k : Int) (p : By) (done : Bool) : (By × Bool × Int) × IS :=
  if k ≠ 0 ∧ (i ≠ s.i ∨ t ≠ s.t ∨ k ≠ s.d.length) then (([], false, 61), s)
  else if 262144 - ((s.set i t k).d.length : Int) < p.length then (([], false, 4), s.set i t k)
  else if done = false then (([], false, 0), ⟨(s.set i t k).i, (s.set i t k).t, (s.set i t k).d ++ p⟩)
  else (((s.set i t k).d ++ p, true, 0), ⟨0, 0, []⟩)
end Go.Proofs.YtjapeaoebjmpnaaGreatDoor

/- The last test of read. Printed by gen_vrg.py. -/
namespace Go.Proofs.YtjapeaoebjmpnaaGreatDoor
open Go.RowKit Go.Maps
set_option linter.unusedVariables false
set_option linter.unusedSimpArgs false
attribute [local go_sem] bmax2 bmin2 bmax_two bmin_two

def nthO : List Oper → Nat → Option Oper
  | [], _ => none
  | x :: _, 0 => some x
  | _ :: r, k + 1 => nthO r k
theorem nthO_get : ∀ (l : List Oper) (k : Nat), l[k]? = nthO l k := by
  intro l
  induction l with
  | nil => intro k; rfl
  | cons x r ih => intro k; cases k with
    | zero => rfl
    | succ k => exact ih k
universe u
section
variable {P : Program} {l : List Oper} {Q : Exit → Act → World → Prop} {md : Region.Mode} {S : World → Prop}
theorem held_run {i : Nat} {oi : Oper} {v : Value} {fuel : Nat} {listed : Array Bool} {a : Act} {w : World} (hi : nthO l i = some oi)
    (hs : Region.noSelect l.toArray = true) (hf : Region.free md l.toArray listed i = true) (hr : (Region.ready md l.toArray listed).contains i = true)
    (hQ : ∀ c a w, Q (.panic c) (a.put oi.dst v) w → Q (.panic c) a w) (hw : Region.wanted oi (yielded l.toArray a.tmps) = true) (hS : S w) (hy : ∀ W, S W → (execOp a.eval oi).run P W = .ok (.value v) W)
    (h : wpAnyH P md l.toArray Q S fuel (listed.setIfInBounds i true) (a.put oi.dst v) w) : wpAnyH P md l.toArray Q S (fuel + 1) listed a w :=
  wpAnyH_take (by rw [List.getElem?_toArray, nthO_get]; exact hi) hs hf hr hQ (Or.inl ⟨hw, hy⟩) hS h
theorem hr_ (i : Nat) (v : Value) {oi : Oper} {fuel : Nat} {listed : Array Bool} {a : Act} {w : World} (hi : nthO l i = some oi) (hS : S w) (hy : ∀ W, S W → (execOp a.eval oi).run P W = .ok (.value v) W)
    (h : wpAnyH P md l.toArray Q S fuel (listed.setIfInBounds i true) (a.put oi.dst v) w) (hs : Region.noSelect l.toArray = true := by kernel_rfl) (hf : Region.free md l.toArray listed i = true := by kernel_rfl)
    (hr : (Region.ready md l.toArray listed).contains i = true := by kernel_rfl) (hQ : ∀ c a w, Q (.panic c) (a.put oi.dst v) w → Q (.panic c) a w := by exact fun _ _ _ h => h)
    (hw : Region.wanted oi (yielded l.toArray a.tmps) = true := by rfl) : wpAnyH P md l.toArray Q S (fuel + 1) listed a w :=
  held_run hi hs hf hr hQ hw hS hy h
theorem sA_ {α : Type u} (l : List α) (i : Nat) (a : α) : l.toArray.setIfInBounds i a = (l.set i a).toArray := List.setIfInBounds_toArray l i a
theorem s0_ {α : Type u} (a b : α) (l : List α) : (a :: l).set 0 b = b :: l := rfl
theorem sS_ {α : Type u} (a b : α) (l : List α) (n : Nat) : (a :: l).set (n + 1) b = a :: l.set n b := rfl
theorem held_skip {i : Nat} {oi : Oper} {fuel : Nat} {listed : Array Bool} {a : Act} {w : World} (hi : nthO l i = some oi)
    (hs : Region.noSelect l.toArray = true) (hf : Region.free md l.toArray listed i = true) (hr : (Region.ready md l.toArray listed).contains i = true)
    (hQ : ∀ c a w, Q (.panic c) (a.put oi.dst undef) w → Q (.panic c) a w) (hw : Region.wanted oi (yielded l.toArray a.tmps) = false) (hS : S w)
    (h : wpAnyH P md l.toArray Q S fuel (listed.setIfInBounds i true) (a.put oi.dst undef) w) : wpAnyH P md l.toArray Q S (fuel + 1) listed a w :=
  wpAnyH_take (by rw [List.getElem?_toArray, nthO_get]; exact hi) hs hf hr hQ (Or.inr ⟨hw, rfl⟩) hS h
theorem held_cons {fuel : Nat} {listed : Array Bool} {a : Act} {w : World} {i : Nat} {o : Oper} (ho : nthO l i = some o)
    (h : ∀ K' : Act → World → Prop, Shut (∀ a w, S w → (S w → wpAnyH P md l.toArray Q S fuel (listed.setIfInBounds i true) a w) → K' a w) → if Region.wanted o (yielded l.toArray a.tmps) = true then Oper.wp P o a w K' Q else K' (a.put o.dst undef) w) :
    AllReadyH P md l.toArray Q S fuel listed a w [i] :=
  AllReadyH.cons (by rw [List.getElem?_toArray, nthO_get]; exact ho) h AllReadyH.nil
end
section
variable {P : Program} {l : List Oper} {Q : Exit → Act → World → Prop} {md : Region.Mode} {S : World → Prop}
theorem hs_ (i : Nat) {oi : Oper} {fuel : Nat} {listed : Array Bool} {a : Act} {w : World} (hi : nthO l i = some oi) (hS : S w)
    (h : wpAnyH P md l.toArray Q S fuel (listed.setIfInBounds i true) (a.put oi.dst undef) w) (hs : Region.noSelect l.toArray = true := by kernel_rfl) (hf : Region.free md l.toArray listed i = true := by kernel_rfl)
    (hr : (Region.ready md l.toArray listed).contains i = true := by kernel_rfl) (hQ : ∀ c a w, Q (.panic c) (a.put oi.dst undef) w → Q (.panic c) a w := by exact fun _ _ _ h => h)
    (hw : Region.wanted oi (yielded l.toArray a.tmps) = false := by rfl) : wpAnyH P md l.toArray Q S (fuel + 1) listed a w :=
  held_skip hi hs hf hr hQ hw hS h
theorem hc_ (i : Nat) {fuel : Nat} {listed : Array Bool} {a : Act} {w : World} {o : Oper} (ho : nthO l i = some o)
    (h : ∀ K' : Act → World → Prop, Shut (∀ a w, S w → (S w → wpAnyH P md l.toArray Q S fuel (listed.setIfInBounds i true) a w) → K' a w) → if Region.wanted o (yielded l.toArray a.tmps) = true then Oper.wp P o a w K' Q else K' (a.put o.dst undef) w)
    (hr : Region.ready md l.toArray listed = [i] := by kernel_rfl) : wpAnyH P md l.toArray Q S (fuel + 1) listed a w :=
  wpAnyH_ready hr (by simp) (held_cons ho h)
end
theorem exec_convert {P : Program} {ρ : Operand → Value} {o : Oper} {src dst : TypeId} {x : Operand} {v : Value} {W : World} (h : o.op = .convert src dst x) (hr : (convert src dst (ρ x)).run P W = .ok v W) :
    (execOp ρ o).run P W = .ok (.value v) W := by
  unfold execOp
  rw [h]
  dsimp only
  rw [Sem.run_bind, hr]
  rfl
theorem wp_exec1 {P : Program} {ops : Array Oper} {Q : Exit → Act → World → Prop} {K : Act → World → Prop} {o : Oper} {a : Act} {w : World} {v : Value} {E : Prop} (hw : Region.wanted o (yielded ops a.tmps) = true) (hr : (execOp a.eval o).run P w = .ok (.value v) w)
    (h : K (a.put o.dst v) w) : if Region.wanted o (yielded ops a.tmps) = true then Oper.wp P o a w K Q else E := by
  rw [if_pos hw]
  unfold Oper.wp
  rw [hr]
  exact h
def regAt (k : Nat) : Code → Option (Array Oper)
  | .region id ops _ => if id = k then some ops else none
  | .seq a b => (regAt k a).orElse fun _ => regAt k b
  | .cond _ a b => (regAt k a).orElse fun _ => regAt k b
  | .block _ b => regAt k b
  | .loop b => regAt k b
  | .scope b => regAt k b
  | _ => none
theorem cells4 {W : World} {b : Nat} {x0 x1 x2 x3 : Value} {t : TypeId} (h : W.heap[b]? = some (.cells #[x0, x1, x2, x3] t (0, 0))) :
    (W.cell? ⟨b, 0, none⟩ = some x0 ∧ W.cell? ⟨b, 1, none⟩ = some x1 ∧ W.cell? ⟨b, 2, none⟩ = some x2 ∧ W.cell? ⟨b, 3, none⟩ = some x3) ∧
    (W.frozen? ⟨b, 0, none⟩ = false ∧ W.frozen? ⟨b, 1, none⟩ = false ∧ W.frozen? ⟨b, 2, none⟩ = false ∧ W.frozen? ⟨b, 3, none⟩ = false) ∧ b < W.heap.size :=
  ⟨⟨by simp [World.cell?, h], by simp [World.cell?, h], by simp [World.cell?, h], by simp [World.cell?, h]⟩, ⟨by simp [World.frozen?, h], by simp [World.frozen?, h], by simp [World.frozen?, h], by simp [World.frozen?, h]⟩, (Array.getElem?_eq_some_iff.1 h).1⟩
theorem partsB_len {s : Sn} (h : checkS s = 0) : (partsB s).length ≤ 513 ∧ (partsB s).flatten.length ≤ 1000000 := by
  obtain ⟨-, -, -, h4, -, h6⟩ := checkS_ok h
  have h1 : ∀ (L : List By) (m : Nat), (∀ p ∈ L, p.length ≤ m) → (L.map recB).flatten.length ≤ L.length * (m + 14) := by
    intro L m
    induction L with
    | nil => intro _; simp
    | cons p L ih =>
      intro hp
      rw [List.map_cons, List.flatten_cons, List.length_append, recB_len, List.length_cons, Nat.succ_mul]
      have := ih fun q hq => hp q (List.mem_cons_of_mem _ hq)
      have := hp p (List.mem_cons_self ..)
      have := (numB_len p.length).2
      omega
  have h2 : (rowsS s).length ≤ 513 := by unfold rowsS chunksB; simp; omega
  refine ⟨by unfold partsB; rw [List.length_map]; exact h2, ?_⟩
  have := h1 (rowsS s) 512 fun q hq => by
    unfold rowsS at hq
    rcases List.mem_cons.1 hq with rfl | hq
    · have := headS_len h4; omega
    unfold chunksB at hq
    obtain ⟨k2, -, rfl⟩ := List.mem_map.1 hq
    have := chunkB_len s.d k2; omega
  have h5 := Nat.mul_le_mul_right (512 + 14) h2
  unfold partsB
  omega

set_option maxRecDepth 100000 in
set_option maxHeartbeats 8000000 in
theorem read_region {Q : Exit → Act → World → Prop} {ds : List Deferred} {w Wn : World} {F F2 : Nat → Prop} {a : Option Addr} {n c b7 x gd dn dc va_n vc : Nat} {va : Option Addr} {n1 n2 : Int} {vs : List Int} {dd b : By} {t1 t2 t3 t4 t5 t6 t8 t9 t11 t12 t13 t14 t15 t16 t17 t18 t19 t20 t21 t22 t23 t24 t25 t26 t27 t28 t29 t30 t31 t32 t33 t34 t35 t36 t37 t38 t39 t40 t41 t42 t43 t44 t45 t46 t47 t48 t49 t50 t51 t52 t53 t54 t55 t56 t57 t58 t59 t60 t61 t62 t63 t64 t65 t66 t67 t68 t69 t70 t71 t72 t73 t74 t75 t76 t77 t78 t79 t80 t81 t82 t83 t84 t85 t86 t87 t88 : Value}
    (HB : Hid (ByF F w a n c b)) (HXW : Hid (Ext w Wn)) (HBX : Hid (∀ W2, Ext Wn W2 → W2.heap[b7]? = some (.cells #[.int .i64 n1, .int .i64 n2, .slice va va_n vc, .slice (some ⟨gd, 0, none⟩) dn dc] 25 (0, 0))))
    (HSN : Hid (SnV F2 Wn (.agg #[.int .i64 n1, .int .i64 n2, .slice va va_n vc, .slice (some ⟨gd, 0, none⟩) dn dc]) ⟨n1, n2, vs, dd⟩)) (HDN : Hid (dn = dd.length))
    (HSAME : Hid (∀ s, checkS s = 0 → fileB s = b → s = ⟨n1, n2, vs, dd⟩ ∧ x = dd.length)) (hd0 : dn ≤ 1099511627776) (hP : ∀ c (a : Act) d v w, Q (.panic c) (a.put d v) w → Q (.panic c) a w)
    (HQ : ∀ (r : Bool) (m68 m69 m70 m71 m72 m73 m74 m75 m76 m77 m78 m79 m80 m81 m82 m83 m84 m85 : Value) (W : World), Ext Wn W → (r = false → checkS ⟨n1, n2, vs, dd⟩ = 0 ∧ fileB ⟨n1, n2, vs, dd⟩ = b) → (r = true → ∀ s, checkS s = 0 → fileB s ≠ b) →
      Q .normal { tmps := #[.slice a n c, t1, t2, t3, t4, t5, t6, .pointer (some ⟨b7, 0, none⟩), t8, t9, .int .i64 (x : Int), t11, t12, t13, t14, t15, t16, t17, t18, t19, t20, t21, t22, t23, t24, t25, t26, t27, t28, t29, t30, t31, t32, t33, t34, t35, t36, t37, t38, t39, t40, t41, t42, t43, t44, t45, t46, t47, t48, t49, t50, t51, t52, t53, t54, t55, t56, t57, t58, t59, t60, t61, t62, t63, t64, t65, t66, t67, m68, m69, m70, m71, m72, m73, m74, m75, m76, m77, m78, m79, m80, m81, m82, m83, m84, m85, .bool r, t87, t88], defers := ds } W) :
    (Code.region 15 ((regAt 15 (Tryz.f61.body.getD .skip)).getD #[]) true).wp Tryz.prog Q { tmps := #[.slice a n c, t1, t2, t3, t4, t5, t6, .pointer (some ⟨b7, 0, none⟩), t8, t9, .int .i64 (x : Int), t11, t12, t13, t14, t15, t16, t17, t18, t19, t20, t21, t22, t23, t24, t25, t26, t27, t28, t29, t30, t31, t32, t33, t34, t35, t36, t37, t38, t39, t40, t41, t42, t43, t44, t45, t46, t47, t48, t49, t50, t51, t52, t53, t54, t55, t56, t57, t58, t59, t60, t61, t62, t63, t64, t65, t66, t67, t68, t69, t70, t71, t72, t73, t74, t75, t76, t77, t78, t79, t80, t81, t82, t83, t84, t85, t86, t87, t88], defers := ds } Wn := by
  have HQ := hid HQ
  refine (?_ : Code.wp _ (Code.region 15 (List.toArray [_, _, _, _, _, _, _, _, _, _, _, _, _, _, _, _, _, _, _]) true) _ _ _)
  have y0 : Ext Wn Wn.drew := ext_drew Wn
  have HCL := hid (fun W2 (hW : Ext Wn W2) => (cells4 (HBX.out W2 hW)).1)
  have HCK := hid (fun W2 (hW : Ext Wn W2) => Check_any (HSN.out.below hW))
  refine wp_region_held_drew (S := fun W => Ext Wn W) (by kernel_rfl) y0 (fun hH => ?_)
  refine held_run (i := 0) (v := .pointer (some ⟨b7, 3, none⟩)) rfl (by kernel_rfl) (by kernel_rfl) (by kernel_rfl) (fun c a w h => hP c a _ _ w h) (by rfl) y0 (fun W hW => ?_) ?_
  · (clear hW; go_simp)
  try simp only [Act.put, sA_, s0_, sS_]
  refine held_run (i := 1) (v := .slice (some ⟨gd, 0, none⟩) dn dc) rfl (by kernel_rfl) (by kernel_rfl) (by kernel_rfl) (fun c a w h => hP c a _ _ w h) (by rfl) y0 (fun W hW => ?_) ?_
  · (obtain ⟨q0, q1, q2, q3⟩ := HCL.out W hW; clear hW; go_simp)
  try simp only [Act.put, sA_, s0_, sS_]
  refine held_run (i := 2) (v := .int .i64 (dn : Int)) rfl (by kernel_rfl) (by kernel_rfl) (by kernel_rfl) (fun c a w h => hP c a _ _ w h) (by rfl) y0 (fun W hW => ?_) ?_
  · (clear hW; go_simp)
  try simp only [Act.put, sA_, s0_, sS_]
  refine held_run (i := 3) (v := .int .i64 (x : Int)) rfl (by kernel_rfl) (by kernel_rfl) (by kernel_rfl) (fun c a w h => hP c a _ _ w h) (by rfl) y0 (fun W hW => ?_) ?_
  · (clear hW; go_simp)
  try simp only [Act.put, sA_, s0_, sS_]
  by_cases hc1 : dn = x
  · subst hc1
    refine held_run (i := 4) (v := .bool false) rfl (by kernel_rfl) (by kernel_rfl) (by kernel_rfl) (fun c a w h => hP c a _ _ w h) (by rfl) y0 (fun W hW => ?_) ?_
    · (clear hW; go_simp)
    try simp only [Act.put, sA_, s0_, sS_]
    refine held_run (i := 5) (v := .bool false) rfl (by kernel_rfl) (by kernel_rfl) (by kernel_rfl) (fun c a w h => hP c a _ _ w h) (by rfl) y0 (fun W hW => ?_) ?_
    · (clear hW; go_simp)
    try simp only [Act.put, sA_, s0_, sS_]
    refine held_run (i := 6) (v := .agg #[.int .i64 n1, .int .i64 n2, .slice va va_n vc, .slice (some ⟨gd, 0, none⟩) dn dc]) rfl (by kernel_rfl) (by kernel_rfl) (by kernel_rfl) (fun c a w h => hP c a _ _ w h) (by rfl) y0 (fun W hW => ?_) ?_
    · (obtain ⟨q0, q1, q2, q3⟩ := HCL.out W hW; clear hW; go_simp)
    try simp only [Act.put, sA_, s0_, sS_]
    rcases checkS_vals ⟨n1, n2, vs, dd⟩ with hcz | hcz | hcz
    · have HCZ := hid hcz
      rw [hcz] at HCK
      clear hcz
      refine hc_ 7 rfl (fun K hK => ?_)
      go_simp
      go_at_call 12
      refine Calls.mono (HCK.out _ y0) ?_
      rintro e w11 ⟨rfl, hx11⟩
      have y1 : Ext Wn w11 := y0.trans' hx11
      go_wp2_with fail
      refine hK.out _ _ y1 (fun hH => ?_)
      clear hK K
      try simp only [Act.put, sA_, s0_, sS_]
      clear y0 hx11 hH
      have y0 := y1
      clear y1
      refine held_run (i := 8) (v := .bool false) rfl (by kernel_rfl) (by kernel_rfl) (by kernel_rfl) (fun c a w h => hP c a _ _ w h) (by rfl) y0 (fun W hW => ?_) ?_
      · (clear hW; go_simp)
      try simp only [Act.put, sA_, s0_, sS_]
      refine held_run (i := 9) (v := .bool false) rfl (by kernel_rfl) (by kernel_rfl) (by kernel_rfl) (fun c a w h => hP c a _ _ w h) (by rfl) y0 (fun W hW => ?_) ?_
      · (clear hW; go_simp)
      try simp only [Act.put, sA_, s0_, sS_]
      refine held_run (i := 10) (v := .bool false) rfl (by kernel_rfl) (by kernel_rfl) (by kernel_rfl) (fun c a w h => hP c a _ _ w h) (by rfl) y0 (fun W hW => ?_) ?_
      · (clear hW; go_simp)
      try simp only [Act.put, sA_, s0_, sS_]
      refine held_run (i := 11) (v := .agg #[.int .i64 n1, .int .i64 n2, .slice va va_n vc, .slice (some ⟨gd, 0, none⟩) dn dc]) rfl (by kernel_rfl) (by kernel_rfl) (by kernel_rfl) (fun c a w h => hP c a _ _ w h) (by rfl) y0 (fun W hW => ?_) ?_
      · (obtain ⟨q0, q1, q2, q3⟩ := HCL.out W hW; clear hW; go_simp)
      try simp only [Act.put, sA_, s0_, sS_]
      refine held_run (i := 15) (v := .slice a n c) rfl (by kernel_rfl) (by kernel_rfl) (by kernel_rfl) (fun c a w h => hP c a _ _ w h) (by rfl) y0 (fun W hW => ?_) ?_
      · (clear hW; go_simp)
      try simp only [Act.put, sA_, s0_, sS_]
      refine held_run (i := 16) (v := .string ⟨b.toArray⟩) rfl (by kernel_rfl) (by kernel_rfl) (by kernel_rfl) (fun c a w h => hP c a _ _ w h) (by rfl) y0 (fun W hW => ?_) ?_
      · exact exec_convert rfl (conv_str (HB.out.below (HXW.out.trans' hW)))
      try simp only [Act.put, sA_, s0_, sS_]
      refine hc_ 12 rfl (fun K hK => ?_)
      go_simp
      go_at_call 84
      refine Calls.mono (parts_any (HSN.out.below y0) (checkS_ok HCZ.out).2.2.2.1 (checkS_ok HCZ.out).2.2.2.2.2) ?_
      rintro e w12 ⟨pa, pn, pc, rfl, hown, hx12, -⟩
      have y1 : Ext Wn w12 := y0.trans' hx12
      have HJ := hid (Join_any (hown.bs (by have := (partsB_len HCZ.out).1; omega)) (by have := (partsB_len HCZ.out).2; omega))
      clear hown hx12
      go_wp2_with fail
      refine hK.out _ _ y1 (fun hH => ?_)
      clear hK K
      try simp only [Act.put, sA_, s0_, sS_]
      clear y0 hH
      have y0 := y1
      clear y1
      refine hc_ 13 rfl (fun K hK => ?_)
      go_simp
      go_at_call 83
      refine Calls.mono HJ.out ?_
      rintro e w13 ⟨jg, jn, jc, rfl, hown, hx13⟩
      have y1 : Ext Wn w13 := y0.trans' hx13
      have HCV := hid (conv_str (hown.by_ (by rw [hown.1]; have := (partsB_len HCZ.out).2; omega)))
      clear hown hx13
      go_wp2_with fail
      refine hK.out _ _ y1 (fun hH => ?_)
      clear hK K
      try simp only [Act.put, sA_, s0_, sS_]
      clear y0 hH
      have y0 := y1
      clear y1
      refine hc_ 14 rfl (fun K hK => ?_)
      refine wp_exec1 (by rfl) (v := .string ⟨(partsB ⟨n1, n2, vs, dd⟩).flatten.toArray⟩) (exec_convert rfl HCV.out) ?_
      refine hK.out _ _ y0 (fun hH => ?_)
      clear hK K
      try simp only [Act.put, sA_, s0_, sS_]
      by_cases hfb : fileB ⟨n1, n2, vs, dd⟩ = b
      · have HFB := hid hfb
        have hss : (partsB ⟨n1, n2, vs, dd⟩).flatten = b := hfb
        rw [hss]
        clear hfb hss
        refine held_run (i := 17) (v := .bool false) rfl (by kernel_rfl) (by kernel_rfl) (by kernel_rfl) (fun c a w h => hP c a _ _ w h) (by rfl) y0 (fun W hW => ?_) ?_
        · (clear hW; go_simp)
        try simp only [Act.put, sA_, s0_, sS_]
        refine held_run (i := 18) (v := .bool false) rfl (by kernel_rfl) (by kernel_rfl) (by kernel_rfl) (fun c a w h => hP c a _ _ w h) (by rfl) y0 (fun W hW => ?_) ?_
        · (clear hW; go_simp)
        try simp only [Act.put, sA_, s0_, sS_]
        refine wpAnyH_done (by kernel_rfl) ?_ _
        exact HQ.out false _ _ _ _ _ _ _ _ _ _ _ _ _ _ _ _ _ _ _ y0 (fun _ => ⟨HCZ.out, HFB.out⟩) (fun h => by cases h)
      have hne : ¬ (partsB ⟨n1, n2, vs, dd⟩).flatten = b := hfb
      have HNO := hid (show ∀ s, checkS s = 0 → fileB s ≠ b from fun s hs hf => hfb (by rw [← (HSAME.out s hs hf).1]; exact hf))
      clear hfb
      refine held_run (i := 17) (v := .bool true) rfl (by kernel_rfl) (by kernel_rfl) (by kernel_rfl) (fun c a w h => hP c a _ _ w h) (by rfl) y0 (fun W hW => ?_) ?_
      · (clear hW; go_simp)
      try simp only [Act.put, sA_, s0_, sS_]
      refine held_run (i := 18) (v := .bool true) rfl (by kernel_rfl) (by kernel_rfl) (by kernel_rfl) (fun c a w h => hP c a _ _ w h) (by rfl) y0 (fun W hW => ?_) ?_
      · (clear hW; go_simp)
      try simp only [Act.put, sA_, s0_, sS_]
      refine wpAnyH_done (by kernel_rfl) ?_ _
      exact HQ.out true _ _ _ _ _ _ _ _ _ _ _ _ _ _ _ _ _ _ _ y0 (fun h => by cases h) (fun _ => HNO.out)
    · have HCZ := hid hcz
      rw [hcz] at HCK
      clear hcz
      refine hc_ 7 rfl (fun K hK => ?_)
      go_simp
      go_at_call 12
      refine Calls.mono (HCK.out _ y0) ?_
      rintro e w11 ⟨rfl, hx11⟩
      have y1 : Ext Wn w11 := y0.trans' hx11
      go_wp2_with fail
      refine hK.out _ _ y1 (fun hH => ?_)
      clear hK K
      try simp only [Act.put, sA_, s0_, sS_]
      clear y0 hx11 hH
      have y0 := y1
      clear y1
      refine held_run (i := 8) (v := .bool true) rfl (by kernel_rfl) (by kernel_rfl) (by kernel_rfl) (fun c a w h => hP c a _ _ w h) (by rfl) y0 (fun W hW => ?_) ?_
      · (clear hW; go_simp)
      try simp only [Act.put, sA_, s0_, sS_]
      refine held_run (i := 9) (v := .bool true) rfl (by kernel_rfl) (by kernel_rfl) (by kernel_rfl) (fun c a w h => hP c a _ _ w h) (by rfl) y0 (fun W hW => ?_) ?_
      · (clear hW; go_simp)
      try simp only [Act.put, sA_, s0_, sS_]
      refine held_run (i := 10) (v := .bool true) rfl (by kernel_rfl) (by kernel_rfl) (by kernel_rfl) (fun c a w h => hP c a _ _ w h) (by rfl) y0 (fun W hW => ?_) ?_
      · (clear hW; go_simp)
      try simp only [Act.put, sA_, s0_, sS_]
      refine held_skip (i := 11) rfl (by kernel_rfl) (by kernel_rfl) (by kernel_rfl) (fun c a w h => hP c a _ _ w h) (by rfl) y0 ?_
      try simp only [Act.put, sA_, s0_, sS_]
      refine held_skip (i := 12) rfl (by kernel_rfl) (by kernel_rfl) (by kernel_rfl) (fun c a w h => hP c a _ _ w h) (by rfl) y0 ?_
      try simp only [Act.put, sA_, s0_, sS_]
      refine held_skip (i := 13) rfl (by kernel_rfl) (by kernel_rfl) (by kernel_rfl) (fun c a w h => hP c a _ _ w h) (by rfl) y0 ?_
      try simp only [Act.put, sA_, s0_, sS_]
      refine held_skip (i := 14) rfl (by kernel_rfl) (by kernel_rfl) (by kernel_rfl) (fun c a w h => hP c a _ _ w h) (by rfl) y0 ?_
      try simp only [Act.put, sA_, s0_, sS_]
      refine held_skip (i := 15) rfl (by kernel_rfl) (by kernel_rfl) (by kernel_rfl) (fun c a w h => hP c a _ _ w h) (by rfl) y0 ?_
      try simp only [Act.put, sA_, s0_, sS_]
      refine held_skip (i := 16) rfl (by kernel_rfl) (by kernel_rfl) (by kernel_rfl) (fun c a w h => hP c a _ _ w h) (by rfl) y0 ?_
      try simp only [Act.put, sA_, s0_, sS_]
      refine held_skip (i := 17) rfl (by kernel_rfl) (by kernel_rfl) (by kernel_rfl) (fun c a w h => hP c a _ _ w h) (by rfl) y0 ?_
      try simp only [Act.put, sA_, s0_, sS_]
      refine held_run (i := 18) (v := .bool true) rfl (by kernel_rfl) (by kernel_rfl) (by kernel_rfl) (fun c a w h => hP c a _ _ w h) (by rfl) y0 (fun W hW => ?_) ?_
      · (clear hW; go_simp)
      try simp only [Act.put, sA_, s0_, sS_]
      refine wpAnyH_done (by kernel_rfl) ?_ _
      exact HQ.out true _ _ _ _ _ _ _ _ _ _ _ _ _ _ _ _ _ _ _ y0 (fun h => by cases h) (fun _ s hs hf => by have h1 := (HSAME.out s hs hf).1; rw [h1, HCZ.out] at hs; cases hs)
    have HCZ := hid hcz
    rw [hcz] at HCK
    clear hcz
    refine hc_ 7 rfl (fun K hK => ?_)
    go_simp
    go_at_call 12
    refine Calls.mono (HCK.out _ y0) ?_
    rintro e w11 ⟨rfl, hx11⟩
    have y1 : Ext Wn w11 := y0.trans' hx11
    go_wp2_with fail
    refine hK.out _ _ y1 (fun hH => ?_)
    clear hK K
    try simp only [Act.put, sA_, s0_, sS_]
    clear y0 hx11 hH
    have y0 := y1
    clear y1
    refine held_run (i := 8) (v := .bool true) rfl (by kernel_rfl) (by kernel_rfl) (by kernel_rfl) (fun c a w h => hP c a _ _ w h) (by rfl) y0 (fun W hW => ?_) ?_
    · (clear hW; go_simp)
    try simp only [Act.put, sA_, s0_, sS_]
    refine held_run (i := 9) (v := .bool true) rfl (by kernel_rfl) (by kernel_rfl) (by kernel_rfl) (fun c a w h => hP c a _ _ w h) (by rfl) y0 (fun W hW => ?_) ?_
    · (clear hW; go_simp)
    try simp only [Act.put, sA_, s0_, sS_]
    refine held_run (i := 10) (v := .bool true) rfl (by kernel_rfl) (by kernel_rfl) (by kernel_rfl) (fun c a w h => hP c a _ _ w h) (by rfl) y0 (fun W hW => ?_) ?_
    · (clear hW; go_simp)
    try simp only [Act.put, sA_, s0_, sS_]
    refine held_skip (i := 11) rfl (by kernel_rfl) (by kernel_rfl) (by kernel_rfl) (fun c a w h => hP c a _ _ w h) (by rfl) y0 ?_
    try simp only [Act.put, sA_, s0_, sS_]
    refine held_skip (i := 12) rfl (by kernel_rfl) (by kernel_rfl) (by kernel_rfl) (fun c a w h => hP c a _ _ w h) (by rfl) y0 ?_
    try simp only [Act.put, sA_, s0_, sS_]
    refine held_skip (i := 13) rfl (by kernel_rfl) (by kernel_rfl) (by kernel_rfl) (fun c a w h => hP c a _ _ w h) (by rfl) y0 ?_
    try simp only [Act.put, sA_, s0_, sS_]
    refine held_skip (i := 14) rfl (by kernel_rfl) (by kernel_rfl) (by kernel_rfl) (fun c a w h => hP c a _ _ w h) (by rfl) y0 ?_
    try simp only [Act.put, sA_, s0_, sS_]
    refine held_skip (i := 15) rfl (by kernel_rfl) (by kernel_rfl) (by kernel_rfl) (fun c a w h => hP c a _ _ w h) (by rfl) y0 ?_
    try simp only [Act.put, sA_, s0_, sS_]
    refine held_skip (i := 16) rfl (by kernel_rfl) (by kernel_rfl) (by kernel_rfl) (fun c a w h => hP c a _ _ w h) (by rfl) y0 ?_
    try simp only [Act.put, sA_, s0_, sS_]
    refine held_skip (i := 17) rfl (by kernel_rfl) (by kernel_rfl) (by kernel_rfl) (fun c a w h => hP c a _ _ w h) (by rfl) y0 ?_
    try simp only [Act.put, sA_, s0_, sS_]
    refine held_run (i := 18) (v := .bool true) rfl (by kernel_rfl) (by kernel_rfl) (by kernel_rfl) (fun c a w h => hP c a _ _ w h) (by rfl) y0 (fun W hW => ?_) ?_
    · (clear hW; go_simp)
    try simp only [Act.put, sA_, s0_, sS_]
    refine wpAnyH_done (by kernel_rfl) ?_ _
    exact HQ.out true _ _ _ _ _ _ _ _ _ _ _ _ _ _ _ _ _ _ _ y0 (fun h => by cases h) (fun _ s hs hf => by have h1 := (HSAME.out s hs hf).1; rw [h1, HCZ.out] at hs; cases hs)
  have hbe3 : ((dn : Int) != (x : Int)) = true := by simp; omega
  have HC1 := hid hc1
  clear hc1
  refine held_run (i := 4) (v := .bool true) rfl (by kernel_rfl) (by kernel_rfl) (by kernel_rfl) (fun c a w h => hP c a _ _ w h) (by rfl) y0 (fun W hW => ?_) ?_
  · (clear hW; go_simp)
  try simp only [Act.put, sA_, s0_, sS_]
  refine held_run (i := 5) (v := .bool true) rfl (by kernel_rfl) (by kernel_rfl) (by kernel_rfl) (fun c a w h => hP c a _ _ w h) (by rfl) y0 (fun W hW => ?_) ?_
  · (clear hW; go_simp)
  try simp only [Act.put, sA_, s0_, sS_]
  refine held_skip (i := 6) rfl (by kernel_rfl) (by kernel_rfl) (by kernel_rfl) (fun c a w h => hP c a _ _ w h) (by rfl) y0 ?_
  try simp only [Act.put, sA_, s0_, sS_]
  refine held_skip (i := 7) rfl (by kernel_rfl) (by kernel_rfl) (by kernel_rfl) (fun c a w h => hP c a _ _ w h) (by rfl) y0 ?_
  try simp only [Act.put, sA_, s0_, sS_]
  refine held_skip (i := 8) rfl (by kernel_rfl) (by kernel_rfl) (by kernel_rfl) (fun c a w h => hP c a _ _ w h) (by rfl) y0 ?_
  try simp only [Act.put, sA_, s0_, sS_]
  refine held_run (i := 9) (v := .bool true) rfl (by kernel_rfl) (by kernel_rfl) (by kernel_rfl) (fun c a w h => hP c a _ _ w h) (by rfl) y0 (fun W hW => ?_) ?_
  · (clear hW; go_simp)
  try simp only [Act.put, sA_, s0_, sS_]
  refine held_run (i := 10) (v := .bool true) rfl (by kernel_rfl) (by kernel_rfl) (by kernel_rfl) (fun c a w h => hP c a _ _ w h) (by rfl) y0 (fun W hW => ?_) ?_
  · (clear hW; go_simp)
  try simp only [Act.put, sA_, s0_, sS_]
  refine held_skip (i := 11) rfl (by kernel_rfl) (by kernel_rfl) (by kernel_rfl) (fun c a w h => hP c a _ _ w h) (by rfl) y0 ?_
  try simp only [Act.put, sA_, s0_, sS_]
  refine held_skip (i := 12) rfl (by kernel_rfl) (by kernel_rfl) (by kernel_rfl) (fun c a w h => hP c a _ _ w h) (by rfl) y0 ?_
  try simp only [Act.put, sA_, s0_, sS_]
  refine held_skip (i := 13) rfl (by kernel_rfl) (by kernel_rfl) (by kernel_rfl) (fun c a w h => hP c a _ _ w h) (by rfl) y0 ?_
  try simp only [Act.put, sA_, s0_, sS_]
  refine held_skip (i := 14) rfl (by kernel_rfl) (by kernel_rfl) (by kernel_rfl) (fun c a w h => hP c a _ _ w h) (by rfl) y0 ?_
  try simp only [Act.put, sA_, s0_, sS_]
  refine held_skip (i := 15) rfl (by kernel_rfl) (by kernel_rfl) (by kernel_rfl) (fun c a w h => hP c a _ _ w h) (by rfl) y0 ?_
  try simp only [Act.put, sA_, s0_, sS_]
  refine held_skip (i := 16) rfl (by kernel_rfl) (by kernel_rfl) (by kernel_rfl) (fun c a w h => hP c a _ _ w h) (by rfl) y0 ?_
  try simp only [Act.put, sA_, s0_, sS_]
  refine held_skip (i := 17) rfl (by kernel_rfl) (by kernel_rfl) (by kernel_rfl) (fun c a w h => hP c a _ _ w h) (by rfl) y0 ?_
  try simp only [Act.put, sA_, s0_, sS_]
  refine held_run (i := 18) (v := .bool true) rfl (by kernel_rfl) (by kernel_rfl) (by kernel_rfl) (fun c a w h => hP c a _ _ w h) (by rfl) y0 (fun W hW => ?_) ?_
  · (clear hW; go_simp)
  try simp only [Act.put, sA_, s0_, sS_]
  refine wpAnyH_done (by kernel_rfl) ?_ _
  exact HQ.out true _ _ _ _ _ _ _ _ _ _ _ _ _ _ _ _ _ _ _ y0 (fun h => by cases h) (fun _ s hs hf => HC1.out (by have := (HSAME.out s hs hf).2; have := HDN.out; omega))
end Go.Proofs.YtjapeaoebjmpnaaGreatDoor
