/- Plain: a log's own records are taken again. -/
import Derived.Test.YtikjckdoldiddaaGreatDoorC23
namespace Go.Proofs.YtikjckdoldiddaaGreatDoor
open Go.RowKit Go.Maps
set_option linter.unusedVariables false
set_option linter.unusedSimpArgs false

/-- A scan that has come to some bytes without an error. -/
def Sc.on (s : Sc) (r : By) : Prop := s.err = 0 ∧ s.b.drop s.at_ = r
theorem Sc.on_start (b : By) : Sc.on ⟨b, 0, 0⟩ b := ⟨rfl, List.drop_zero⟩
theorem Sc.on_num {s : Sc} {x : Int} {r : By} (h : s.on (numS x ++ r)) (h0 : 0 ≤ x) (h1 : x < 9223372036854775808) : (s.num.1 : Int) = x ∧ s.num.2.on r := by
  obtain ⟨a, b, -, d⟩ := Sc.num_at h.1 h.2 h0 h1
  exact ⟨a, b, d⟩
theorem Sc.on_end {s : Sc} (h : s.on []) : s.end_.1 = 0 := by
  obtain ⟨h1, h2⟩ := h
  unfold Sc.end_
  have h3 : s.b.length ≤ s.at_ := by
    have := congrArg List.length h2
    rw [List.length_drop] at this
    simp at this
    omega
  rw [if_neg (by omega)]
  exact h1
theorem Sc.on_text {s : Sc} {d r : By} {m : Nat} (h : s.on (numS (d.length : Int) ++ (d ++ r))) (hd : d.length ≤ m) (hm : m < 9223372036854775808) : (s.text m).1 = d ∧ (s.text m).2.on r := by
  obtain ⟨h1, h2⟩ := Sc.on_num h (by omega) (by omega)
  have hb := s.num_b
  have h1 : s.num.1 = d.length := by omega
  obtain ⟨h3, h4⟩ := h2
  rw [hb] at h4
  have h5 : d.length + r.length = s.b.length - s.num.2.at_ := by
    have := congrArg List.length h4
    rw [List.length_drop, List.length_append] at this
    exact this.symm
  unfold Sc.text
  rw [if_neg (by rw [h3]; simp), h1, if_neg (by omega), if_neg (by omega)]
  refine ⟨by rw [h4, List.take_left], h3, ?_⟩
  show s.num.2.b.drop (s.num.2.at_ + d.length) = r
  rw [hb, ← List.drop_drop, h4, List.drop_left]
theorem numsB_cons (x : Int) (l : List Int) : numsB (x :: l) = numS x ++ numsB l := rfl
theorem pay2 (x y : Int) : payB [x, y] false [] = numS x ++ (numS y ++ []) := by show numsB [x, y] = _; rw [numsB_cons, numsB_cons]; rfl
theorem pay3 (x y z : Int) : payB [x, y, z] false [] = numS x ++ (numS y ++ (numS z ++ [])) := by show numsB [x, y, z] = _; rw [numsB_cons, numsB_cons, numsB_cons]; rfl
theorem payE (e : Ent) : payB [2, e.i, e.t] true e.d = numS 2 ++ (numS e.i ++ (numS e.t ++ (numS (e.d.length : Int) ++ (e.d ++ [])))) := by
  simp [payB, numsB]
theorem take_hard (v : Wv) {t x : Int} (h : goodHS t x = true) : v.take (payB [1, t, x] false []) = some { v with ht := t, hv := x } := by
  obtain ⟨⟨h1, h2⟩, h3, h4⟩ := goodHS_iff h
  obtain ⟨a1, b1⟩ := Sc.on_num (by rw [← pay3 1 t x]; exact Sc.on_start _) (show (0 : Int) ≤ 1 by decide) (by decide)
  obtain ⟨a2, b2⟩ := Sc.on_num b1 h1 (by omega)
  obtain ⟨a3, b3⟩ := Sc.on_num b2 h3 (by omega)
  have b4 := Sc.on_end b3
  unfold Wv.take
  dsimp only
  rw [if_pos (by omega), a2, a3, if_pos ⟨h, b4⟩]
theorem good_iff {v : Wv} {e : Ent} (h : v.good e = true) : e.i = v.last + 1 ∧ (1 ≤ e.i ∧ e.i ≤ 1099511627776) ∧ (1 ≤ e.t ∧ e.t ≤ 1099511627776) ∧ e.d.length ≤ 4096 := by
  unfold Wv.good at h
  simp only [Bool.and_eq_true, decide_eq_true_eq] at h
  exact ⟨h.1.1.1, within_big h.1.1.2, within_big h.1.2, h.2⟩
theorem take_ent {v : Wv} {e : Ent} (h : v.good e = true) : v.take (payB [2, e.i, e.t] true e.d) = some { v with l := v.l ++ [e] } := by
  obtain ⟨-, ⟨h1, h2⟩, ⟨h3, h4⟩, h5⟩ := good_iff h
  obtain ⟨a1, b1⟩ := Sc.on_num (by rw [← payE e]; exact Sc.on_start _) (show (0 : Int) ≤ 2 by decide) (by decide)
  obtain ⟨a2, b2⟩ := Sc.on_num b1 (by omega) (by omega)
  obtain ⟨a3, b3⟩ := Sc.on_num b2 (by omega) (by omega)
  obtain ⟨a4, b4⟩ := Sc.on_text (m := 4096) b3 h5 (by decide)
  have b5 := Sc.on_end b4
  unfold Wv.take
  dsimp only
  rw [if_neg (by omega), if_pos (by omega), a2, a3, a4, if_pos ⟨h, b5⟩]
theorem take_cut {v : Wv} {n : Int} (h1 : v.i < n) (h2 : n ≤ v.last) (h0 : 0 ≤ n) (h3 : n < 9223372036854775808) : v.take (payB [3, n] false []) = some (v.cutV n) := by
  obtain ⟨a1, b1⟩ := Sc.on_num (by rw [← pay2 3 n]; exact Sc.on_start _) (show (0 : Int) ≤ 3 by decide) (by decide)
  obtain ⟨a2, b2⟩ := Sc.on_num b1 h0 h3
  have b3 := Sc.on_end b2
  unfold Wv.take
  dsimp only
  rw [if_neg (by omega), if_neg (by omega), if_pos (by omega), a2, if_pos ⟨⟨h1, h2⟩, b3⟩]
  rfl
/-! ### some records, all of which are taken -/
def Wv.runs : Wv → List By → Option Wv
  | v, [] => some v
  | v, b :: r => match v.take b with | none => none | some v' => Wv.runs v' r
theorem runs_cons (v : Wv) (b : By) (r : List By) : v.runs (b :: r) = match v.take b with | none => none | some v' => v'.runs r := rfl
theorem runs_append : ∀ (L M : List By) (v : Wv), v.runs (L ++ M) = (v.runs L).bind fun n => n.runs M := by
  intro L
  induction L with
  | nil => intro M v; rfl
  | cons b L ih =>
    intro M v
    rw [List.cons_append, runs_cons, runs_cons]
    cases v.take b with
    | none => rfl
    | some v' => exact ih M v'
theorem runs_more : ∀ (L : List By) (v v' : Wv), v.runs L = some v' → v.more L = (v', L.length) := by
  intro L
  induction L with
  | nil => intro v v' h; cases h; rfl
  | cons b L ih =>
    intro v v' h
    rw [runs_cons] at h
    cases ht : v.take b with
    | none => rw [ht] at h; cases h
    | some u =>
      rw [ht] at h
      rw [more_some ht, ih u v' h]
      rfl
theorem runs_part {v v' : Wv} {L : List By} (h : v.runs L = some v') (j : Nat) : ∃ u, v.runs (L.take j) = some u := by
  rw [← List.take_append_drop j L, runs_append] at h
  cases hu : v.runs (L.take j) with
  | none => rw [hu] at h; cases h
  | some u => exact ⟨u, rfl⟩
def entR (e : Ent) : By := payB [2, e.i, e.t] true e.d
theorem entsB_recs (l : List Ent) : entsB l = ((l.map entR).map recB).flatten := by
  unfold entsB
  rw [List.map_map]; rfl
theorem adds_runs : ∀ (l : List Ent) (v v' : Wv), v.adds l = some v' → v.runs (l.map entR) = some v' := by
  intro l
  induction l with
  | nil => intro v v' h; exact h
  | cons e r ih =>
    intro v v' h
    have h : (if v.good e = true then Wv.adds { v with l := v.l ++ [e] } r else none) = some v' := h
    split at h
    · rename_i hg
      rw [List.map_cons, runs_cons]
      show (match v.take (payB [2, e.i, e.t] true e.d) with | none => none | some v' => v'.runs (r.map entR)) = _
      rw [take_ent hg]
      exact ih _ _ h
    cases h
/-! ### a view that stands alone -/
structure Wv.Sound (v : Wv) : Prop where
  i : withinS v.i 0 = true
  t : withinS v.t 0 = true
  h : goodHS v.ht v.hv = true
  l : Wv.adds { v with l := [] } v.l = some v
def wholeR (v : Wv) : List By := payB [4, v.i, v.t] false [] :: payB [1, v.ht, v.hv] false [] :: (v.l.map entR ++ [payB [5] false []])
theorem whole_recs (v : Wv) : v.whole = ((wholeR v).map recB).flatten := by
  unfold Wv.whole wholeR
  rw [List.map_cons, List.map_cons, List.map_append, List.flatten_cons, List.flatten_cons, List.flatten_append, entsB_recs]
  simp [startB, hardB, endB]
theorem pay5 : payB [5] false [] = [5] := by decide
theorem entR_ne (e : Ent) : entR e ≠ [5] := fun h => by
  have h1 := congrArg List.length h
  unfold entR at h1
  rw [payE] at h1
  simp only [List.length_append, List.length_cons, List.length_nil] at h1
  have a1 := (numS_len 2).1
  have a2 := (numS_len e.i).1
  omega
theorem pay3_ne (x y z : Int) : payB [x, y, z] false [] ≠ [5] := fun h => by
  have h1 := congrArg List.length h
  rw [pay3] at h1
  simp only [List.length_append, List.length_cons, List.length_nil] at h1
  have a1 := (numS_len x).1
  have a2 := (numS_len y).1
  omega
theorem goWV_runs : ∀ (L M : List By) (k : Nat) (v v' : Wv), (∀ b ∈ L, b ≠ [5]) → v.runs L = some v' → goWV k v (L ++ [5] :: M) = (v', k + L.length + 2) := by
  intro L
  induction L with
  | nil => intro M k v v' _ h; cases h; rw [List.nil_append, goWV_cons, if_pos rfl]; rfl
  | cons b L ih =>
    intro M k v v' hb h
    rw [runs_cons] at h
    cases ht : v.take b with
    | none => rw [ht] at h; cases h
    | some u =>
      rw [ht] at h
      rw [List.cons_append, goWV_cons, if_neg (hb b (List.mem_cons_self ..)), ht]
      dsimp only
      rw [ih M (k + 1) u v' (fun x hx => hb x (List.mem_cons_of_mem _ hx)) h, List.length_cons]
      congr 1
      omega
theorem goWV_part : ∀ (L : List By) (k : Nat) (v : Wv), (∀ b ∈ L, b ≠ [5]) → (goWV k v L).2 = 0 := by
  intro L
  induction L with
  | nil => intro k v _; rfl
  | cons b L ih =>
    intro k v hb
    rw [goWV_cons, if_neg (hb b (List.mem_cons_self ..))]
    split
    · rfl
    exact ih _ _ fun x hx => hb x (List.mem_cons_of_mem _ hx)
theorem begin_whole {v : Wv} (h : v.Sound) (M : List By) : beginW (wholeR v ++ M) = (v, (wholeR v).length) := by
  have hi := within_big h.i
  have ht := within_big h.t
  obtain ⟨a1, b1⟩ := Sc.on_num (by rw [← pay3 4 v.i v.t]; exact Sc.on_start _) (show (0 : Int) ≤ 4 by decide) (by decide)
  obtain ⟨a2, b2⟩ := Sc.on_num b1 hi.1 (by omega)
  obtain ⟨a3, b3⟩ := Sc.on_num b2 ht.1 (by omega)
  have b4 := Sc.on_end b3
  have hr : Wv.runs ⟨0, 0, v.i, v.t, []⟩ (payB [1, v.ht, v.hv] false [] :: v.l.map entR) = some v := by
    rw [runs_cons, take_hard _ h.h]
    dsimp only
    exact adds_runs _ _ _ h.l
  have hb : ∀ b ∈ (payB [1, v.ht, v.hv] false [] :: v.l.map entR), b ≠ [5] := fun b hb => by
    rcases List.mem_cons.1 hb with rfl | hb
    · exact pay3_ne _ _ _
    obtain ⟨e, -, rfl⟩ := List.mem_map.1 hb
    exact entR_ne e
  have hg := goWV_runs _ M 0 _ v hb hr
  have e1 : wholeR v ++ M = payB [4, v.i, v.t] false [] :: (payB [1, v.ht, v.hv] false [] :: v.l.map entR ++ [5] :: M) := by
    unfold wholeR; rw [pay5]; simp
  rw [e1]
  unfold beginW
  dsimp only
  rw [if_pos ⟨by omega, b4, by rw [a2]; exact h.i, by rw [a3]; exact h.t⟩, a2, a3, hg]
  congr 1
  unfold wholeR
  simp
/-- Records that do not end a segment do not stand alone. -/
theorem begin_part (L : List By) (h : ∀ b ∈ L.drop 1, b ≠ [5]) : (beginW L).2 = 0 := by
  cases L with
  | nil => rfl
  | cons b r =>
    unfold beginW
    dsimp only
    split
    · exact goWV_part r _ _ h
    rfl
theorem begin_take {v v' : Wv} {b : By} (h : v.take b = some v') (r : List By) : (beginW (b :: r)).2 = 0 := by
  unfold beginW
  dsimp only
  split
  · rename_i h4
    unfold Wv.take at h
    dsimp only at h
    rw [if_neg (by omega), if_neg (by omega), if_neg (by omega)] at h
    cases h
  rfl
/-- Views that are sound stay so. -/
theorem Sound.hard {v : Wv} (h : v.Sound) {t x : Int} (hg : goodHS t x = true) : ({ v with ht := t, hv := x } : Wv).Sound := by
  refine ⟨h.i, h.t, hg, ?_⟩
  have gen : ∀ (l : List Ent) (a b : Wv), a.adds l = some b → Wv.adds { a with ht := t, hv := x } l = some { b with ht := t, hv := x } := by
    intro l
    induction l with
    | nil => intro a b h; cases h; rfl
    | cons e r ih =>
      intro a b h
      have h : (if a.good e = true then Wv.adds { a with l := a.l ++ [e] } r else none) = some b := h
      show (if Wv.good { a with ht := t, hv := x } e = true then Wv.adds { a with ht := t, hv := x, l := a.l ++ [e] } r else none) = _
      have e1 : Wv.good { a with ht := t, hv := x } e = a.good e := rfl
      rw [e1]
      split at h
      · rename_i hg; rw [if_pos hg]; exact ih _ _ h
      cases h
  exact gen v.l _ _ h.l
theorem Sound.adds {v v' : Wv} (h : v.Sound) {l : List Ent} (ha : v.adds l = some v') : v'.Sound := by
  have e := Wv.adds_eq _ _ _ ha
  have h1 : Wv.adds { v with l := [] } (v.l ++ l) = some v' := by
    rw [Wv.adds_append, h.l]; exact ha
  subst e
  exact ⟨h.i, h.t, h.h, h1⟩
theorem Sound.cut {v : Wv} (h : v.Sound) (n : Int) : (v.cutV n).Sound := by
  refine ⟨h.i, h.t, h.h, ?_⟩
  have h1 := h.l
  have e : v.l = v.l.take (n - v.i - 1).toNat ++ v.l.drop (n - v.i - 1).toNat := (List.take_append_drop _ _).symm
  rw [e, Wv.adds_append] at h1
  cases hu : Wv.adds { v with l := [] } (v.l.take (n - v.i - 1).toNat) with
  | none => rw [hu] at h1; cases h1
  | some u =>
    have e2 := Wv.adds_eq _ _ _ hu
    show Wv.adds { v with l := [] } (v.l.take (n - v.i - 1).toNat) = some (v.cutV n)
    rw [hu, e2]
    rfl
end Go.Proofs.YtikjckdoldiddaaGreatDoor

/- Plain: a log's segments are read again. -/
namespace Go.Proofs.YtikjckdoldiddaaGreatDoor
open Go.RowKit Go.Maps
set_option linter.unusedVariables false
set_option linter.unusedSimpArgs false

def recs (L : List By) : By := (L.map recB).flatten
theorem recs_len (L : List By) : (recs L).length = sizedB L := (sizedB_flat L).symm
theorem recs_append (L M : List By) : recs (L ++ M) = recs L ++ recs M := by unfold recs; rw [List.map_append, List.flatten_append]
def smallR (L : List By) : Prop := ∀ p ∈ L, p.length ≤ 65536
theorem sizedB_pos {L : List By} (h : L ≠ []) : sizedB L ≠ 0 := by
  cases L with
  | nil => exact absurd rfl h
  | cons p L => rw [sizedB_cons, recB_len]; omega
theorem more_zero {v : Wv} {L : List By} (h : (v.more L).2 = 0) : (v.more L).1 = v := by
  cases L with
  | nil => rfl
  | cons b r =>
    cases ht : v.take b with
    | none => rw [more_none ht]
    | some v' => rw [more_some ht] at h; cases h
/-- A log's segments in a disk's files: R's records, x behind the last ones. -/
structure Lines (T : Tab) (s : Wl) (R : Nat → List By) (x : By) : Prop where
  fr1 : 1 ≤ s.fr
  frt : s.fr ≤ s.tt
  tt : s.tt < 999999999999
  seg : ∀ n, s.fr ≤ n → n ≤ s.tt → tGet T (fileW n) = some (recs (R n) ++ (if n = s.tt then x else [])) ∧ smallR (R n) ∧ R n ≠ []
  left : rowsB (recs (R s.tt) ++ x) = (R s.tt, sizedB (R s.tt))
  vs : ∃ v0 k0, ∃ vs : Nat → Wv, beginW (R s.fr) = (v0, k0) ∧ k0 ≠ 0 ∧ v0.runs ((R s.fr).drop k0) = some (vs s.fr) ∧ (∀ n, s.fr ≤ n → n < s.tt → (vs n).runs (R (n + 1)) = some (vs (n + 1))) ∧ vs s.tt = s.v
  sz : s.sz = sizedB (R s.tt)
  above : ∀ n, s.tt < n → n < 1000000000000 → tGet T (fileW n) = none ∨ (n = s.tt + 1 ∧ (beginW (rowsB (tOld T (fileW n))).1).2 = 0 ∧ (s.v.more (rowsB (tOld T (fileW n))).1).2 = 0)
theorem Lines.bytes {T : Tab} {s : Wl} {R : Nat → List By} {x : By} (h : Lines T s R x) {d : DS} (ho : d.off = false) (hT : d.seen = T) {n : Nat} (h1 : s.fr ≤ n) (h2 : n ≤ s.tt) :
    segB d n = recs (R n) ++ (if n = s.tt then x else []) ∧ segR d n = R n := by
  obtain ⟨e, hs, -⟩ := h.seg n h1 h2
  have h3 := h.tt
  have e1 : segB d n = recs (R n) ++ (if n = s.tt then x else []) := by rw [segB_get ho (by omega), hT]; unfold tOld; rw [e]; rfl
  refine ⟨e1, ?_⟩
  unfold segR
  rw [e1]
  by_cases hn : n = s.tt
  · rw [if_pos hn]; subst hn; rw [h.left]
  rw [if_neg hn, List.append_nil]; unfold recs; rw [rowsB_recs _ hs]
theorem grow_runs {s : Wl} {L : List By} {k : Nat} {v : Wv} (h : s.v.runs (L.drop k) = some v) (hk : k ≤ L.length) : s.grow L k = ⟨v, s.fr, s.tt, sizedB L⟩ := by
  unfold Wl.grow
  rw [runs_more _ _ _ h, List.length_drop]
  dsimp only
  rw [show k + (L.length - k) = L.length by omega, List.take_length]
theorem follow_lines {T : Tab} {s : Wl} {R : Nat → List By} {x : By} (h : Lines T s R x) {d : DS} (ho : d.off = false) (hT : d.seen = T) (hr : tRise T) {l : List Nat} (hs : d.Segs l) (vs : Nat → Wv) (hv : ∀ n, s.fr ≤ n → n < s.tt → (vs n).runs (R (n + 1)) = some (vs (n + 1))) (hvt : vs s.tt = s.v) :
    ∀ (m j : Nat), s.tt - j = m → s.fr ≤ j → j ≤ s.tt → (j = s.tt → x = []) → ∀ l' : List Nat, l'.Pairwise (· < ·) → (∀ n, n ∈ l' ↔ n ∈ l ∧ j < n) → followS d l' ⟨vs j, s.fr, j, sizedB (R j)⟩ = s := by
  have hg := fun n => segs_get ho (by rw [hT]; exact hr) hs (n := n)
  intro m
  induction m with
  | zero =>
    intro j hm h1 h2 hx l' hp hl
    obtain rfl : j = s.tt := by omega
    have e0 : (⟨vs s.tt, s.fr, s.tt, sizedB (R s.tt)⟩ : Wl) = s := by rw [hvt, ← h.sz]
    rw [e0]
    cases l' with
    | nil => rfl
    | cons n r =>
      obtain ⟨hn1, hn2⟩ := (hl n).1 (List.mem_cons_self ..)
      obtain ⟨g1, g2, b, g3⟩ := (hg n).1 hn1
      rw [hT] at g3
      rcases h.above n hn2 g2 with h3 | ⟨h3, h4, h5⟩
      · rw [h3] at g3; cases g3
      have e1 : segR d n = (rowsB (tOld T (fileW n))).1 := by unfold segR; rw [segB_get ho g2, hT]
      rw [← e1] at h5
      rw [follow_cons]
      by_cases hne : n ≠ s.tt + 1 ∨ segR d n = []
      · rw [if_pos hne]
      rw [if_neg hne]
      have e2 : (s.grow (segR d n) 0).sz = 0 := by unfold Wl.grow; rw [List.drop_zero, h5]; rfl
      rw [if_pos e2]
      unfold Wl.grow
      rw [List.drop_zero, more_zero h5]
  | succ m ih =>
    intro j hm h1 h2 hx l' hp hl
    have hj : j < s.tt := by omega
    obtain ⟨c1, c2, c3⟩ := h.seg (j + 1) (by omega) (by omega)
    have hin : j + 1 ∈ l' := (hl _).2 ⟨(hg _).2 ⟨by omega, by have := h.tt; omega, _, by rw [hT]; exact c1⟩, by omega⟩
    cases l' with
    | nil => cases hin
    | cons n r =>
      obtain ⟨p1, p2⟩ := List.pairwise_cons.1 hp
      obtain ⟨hn1, hn2⟩ := (hl n).1 (List.mem_cons_self ..)
      obtain rfl : n = j + 1 := by
        rcases List.mem_cons.1 hin with e | e
        · exact e.symm
        have := p1 _ e; omega
      obtain ⟨b1, b2⟩ := h.bytes ho hT (n := j + 1) (by omega) (by omega)
      rw [follow_cons, b2, if_neg (by rintro (e | e); exact e rfl; exact c3 e)]
      rw [grow_runs (s := ⟨vs j, s.fr, j, sizedB (R j)⟩) (by rw [List.drop_zero]; exact hv j h1 hj) (Nat.zero_le _)]
      dsimp only
      rw [if_neg (sizedB_pos c3), b1, List.length_append, recs_len]
      have hl2 : ∀ k, k ∈ r ↔ k ∈ l ∧ j + 1 < k := fun k => by
        constructor
        · intro hk
          exact ⟨((hl k).1 (List.mem_cons_of_mem _ hk)).1, p1 k hk⟩
        rintro ⟨k1, k2⟩
        rcases List.mem_cons.1 ((hl k).2 ⟨k1, by omega⟩) with e | e
        · omega
        exact e
      by_cases hjt : j + 1 = s.tt
      · rw [if_pos hjt]
        by_cases hx0 : x = []
        · rw [if_pos (by rw [hx0]; rfl)]
          exact ih (j + 1) (by omega) (by omega) (by omega) (fun _ => hx0) r p2 hl2
        rw [if_neg (by have := List.length_pos_iff.2 hx0; omega)]
        show (⟨vs (j + 1), s.fr, j + 1, sizedB (R (j + 1))⟩ : Wl) = s
        rw [hjt, hvt, ← h.sz]
      rw [if_neg hjt, if_pos (by rfl)]
      exact ih (j + 1) (by omega) (by omega) (by omega) (fun e => absurd e hjt) r p2 hl2
theorem runs_first {v v' : Wv} {L : List By} (hL : L ≠ []) (h : v.runs L = some v') : ∃ b r u, L = b :: r ∧ v.take b = some u := by
  cases L with
  | nil => exact absurd rfl hL
  | cons b r =>
    rw [runs_cons] at h
    cases ht : v.take b with
    | none => rw [ht] at h; cases h
    | some u => exact ⟨b, r, u, rfl, ht⟩
/-- What is read of a log's segments. -/
theorem read_lines {T : Tab} {s : Wl} {R : Nat → List By} {x : By} (h : Lines T s R x) {d : DS} (ho : d.off = false) (hT : d.seen = T) (hr : tRise T) {l : List Nat} (hs : d.Segs l) : readS d l = s := by
  have hg := fun n => segs_get ho (by rw [hT]; exact hr) hs (n := n)
  have hp := segs_rise ho (by rw [hT]; exact hr) hs
  obtain ⟨v0, k0, vs, hb, hk, hrun, hv, hvt⟩ := h.vs
  have htt := h.tt
  have hfrt := h.frt
  obtain ⟨c1, c2, c3⟩ := h.seg s.fr (Nat.le_refl _) h.frt
  have hin : s.fr ∈ l := (hg _).2 ⟨h.fr1, by omega, _, by rw [hT]; exact c1⟩
  obtain ⟨p, hpl, hpe⟩ := List.getElem_of_mem hin
  have hbig : ∀ k, k < l.length → p < k → (beginW (segR d (l.getD k 0))).2 = 0 := fun k hk1 hk2 => by
    have hgd : l.getD k 0 = l[k] := by rw [List.getD_eq_getElem?_getD, List.getElem?_eq_getElem hk1]; rfl
    rw [hgd]
    have hlt : s.fr < l[k] := by rw [← hpe]; exact List.pairwise_iff_getElem.1 hp p k hpl hk1 hk2
    obtain ⟨g1, g2, b, g3⟩ := (hg l[k]).1 (List.getElem_mem hk1)
    rw [hT] at g3
    by_cases hle : l[k] ≤ s.tt
    · obtain ⟨b1, b2⟩ := h.bytes ho hT (n := l[k]) (by omega) hle
      obtain ⟨-, -, d3⟩ := h.seg l[k] (by omega) hle
      have h1 := hv (l[k] - 1) (by omega) (by omega)
      rw [show l[k] - 1 + 1 = l[k] by omega] at h1
      obtain ⟨b, r, u, e1, e2⟩ := runs_first d3 h1
      rw [b2, e1]
      exact begin_take e2 r
    rcases h.above l[k] (by omega) g2 with h3 | ⟨h3, h4, h5⟩
    · rw [h3] at g3; cases g3
    unfold segR
    rw [segB_get ho g2, hT]
    exact h4
  have hdown : ∀ i, p + 1 + i ≤ l.length → scanS d l (p + 1 + i) = scanS d l (p + 1) := by
    intro i
    induction i with
    | zero => intro _; rfl
    | succ i ih =>
      intro hi
      rw [show p + 1 + (i + 1) = (p + 1 + i) + 1 by omega, scanS_succ, if_pos (hbig _ (by omega) (by omega))]
      exact ih (by omega)
  have e1 : readS d l = scanS d l (p + 1) := by
    have := hdown (l.length - (p + 1)) (by omega)
    rw [show p + 1 + (l.length - (p + 1)) = l.length by omega] at this
    exact this
  have hgd : l.getD p 0 = s.fr := by rw [List.getD_eq_getElem?_getD, List.getElem?_eq_getElem hpl]; exact hpe
  obtain ⟨b1, b2⟩ := h.bytes ho hT (n := s.fr) (Nat.le_refl _) h.frt
  have hk2 : k0 ≤ (R s.fr).length := by have := (begin_ok (R s.fr)).1; rw [hb] at this; exact this
  rw [e1, scanS_succ, hgd, b2, hb, if_neg hk]
  dsimp only
  rw [grow_runs (s := ⟨v0, s.fr, s.fr, 0⟩) hrun hk2]
  dsimp only
  rw [b1, List.length_append, recs_len]
  have hl2 : (l.drop (p + 1)).Pairwise (· < ·) := hp.sublist (List.drop_sublist _ _)
  have hl3 : ∀ n, n ∈ l.drop (p + 1) ↔ n ∈ l ∧ s.fr < n := fun n => by
    constructor
    · intro hn
      obtain ⟨i, hi, he⟩ := List.getElem_of_mem hn
      rw [List.getElem_drop] at he
      rw [List.length_drop] at hi
      refine ⟨List.mem_of_mem_drop hn, ?_⟩
      rw [← he, ← hpe]
      exact List.pairwise_iff_getElem.1 hp p (p + 1 + i) hpl (by omega) (by omega)
    rintro ⟨n1, n2⟩
    obtain ⟨i, hi, he⟩ := List.getElem_of_mem n1
    have hip : p < i := by
      rcases Nat.lt_trichotomy i p with h3 | h3 | h3
      · have := List.pairwise_iff_getElem.1 hp i p hi hpl h3
        omega
      · subst h3; omega
      exact h3
    have h4 : (l.drop (p + 1))[i - (p + 1)]'(by rw [List.length_drop]; omega) = n := by
      rw [List.getElem_drop, ← he]
      congr 1
      omega
    rw [← h4]
    exact List.getElem_mem _
  by_cases hft : s.fr = s.tt
  · rw [if_pos hft]
    by_cases hx0 : x = []
    · rw [if_pos (by rw [hx0]; rfl)]
      exact follow_lines h ho hT hr hs vs hv hvt _ s.fr rfl (Nat.le_refl _) h.frt (fun _ => hx0) _ hl2 hl3
    rw [if_neg (by have := List.length_pos_iff.2 hx0; omega)]
    show (⟨vs s.fr, s.fr, s.fr, sizedB (R s.fr)⟩ : Wl) = s
    have h6 := hvt
    have h7 := h.sz
    rw [← hft] at h6 h7
    rw [h6, ← h7]
    show (⟨s.v, s.fr, s.fr, s.sz⟩ : Wl) = s
    conv => rhs; rw [show s = ⟨s.v, s.fr, s.tt, s.sz⟩ from rfl, ← hft]
  rw [if_neg hft, if_pos (by rfl)]
  exact follow_lines h ho hT hr hs vs hv hvt _ s.fr rfl (Nat.le_refl _) h.frt (fun e => absurd e hft) _ hl2 hl3
/-- No segment stands alone. -/
theorem read_none {T : Tab} (h : ∀ n, 1 ≤ n → n < 1000000000000 → (beginW (rowsB (tOld T (fileW n))).1).2 = 0) {d : DS} (ho : d.off = false) (hT : d.seen = T) {l : List Nat} (hs : d.Segs l) : readS d l = wl0 := by
  have hz : ∀ k, k ≤ l.length → scanS d l k = wl0 := by
    intro k
    induction k with
    | zero => intro _; rfl
    | succ k ih =>
      intro hk
      have hk1 : k < l.length := by omega
      have hgd : l.getD k 0 = l[k] := by rw [List.getD_eq_getElem?_getD, List.getElem?_eq_getElem hk1]; rfl
      obtain ⟨g1, g2⟩ := hs.num l[k] (List.getElem_mem hk1)
      have e1 : segR d l[k] = (rowsB (tOld T (fileW l[k]))).1 := by unfold segR; rw [segB_get ho g2, hT]
      rw [scanS_succ, hgd, e1, if_pos (h _ g1 g2)]
      exact ih (by omega)
  exact hz l.length (Nat.le_refl _)
end Go.Proofs.YtikjckdoldiddaaGreatDoor

/- Plain: files that a log wrote, whole or torn. -/
namespace Go.Proofs.YtikjckdoldiddaaGreatDoor
open Go.RowKit Go.Maps
set_option linter.unusedVariables false
set_option linter.unusedSimpArgs false

theorem recs_cons (p : By) (L : List By) : recs (p :: L) = recB p ++ recs L := rfl
theorem rows_left : ∀ (N : List By) (y : By), smallR N → (pickB y).2.2 ≠ 0 → rowsB (recs N ++ y) = (N, sizedB N) := by
  intro N
  induction N with
  | nil => intro y _ h; exact rowsB_none h
  | cons p N ih =>
    intro y hs h
    rw [recs_cons, List.append_assoc, rowsB_cons (hs p (List.mem_cons_self ..)), ih y (fun q hq => hs q (List.mem_cons_of_mem _ hq)) h, sizedB_cons]
theorem pickB_nil : (pickB []).2.2 ≠ 0 := by decide
/-- Some of the bytes of records. -/
theorem torn : ∀ (M : List By) (q : Nat), smallR M → ∃ j y, j ≤ M.length ∧ (recs M).take q = recs (M.take j) ++ y ∧ (pickB y).2.2 ≠ 0 ∧ (sizedB M ≤ q → j = M.length ∧ y = []) ∧ (q < sizedB M → j < M.length) := by
  intro M
  induction M with
  | nil => intro q _; exact ⟨0, [], Nat.le_refl _, by show [].take q = _; rw [List.take_nil]; rfl, pickB_nil, fun _ => ⟨rfl, rfl⟩, fun h => absurd h (Nat.not_lt_zero _)⟩
  | cons p M ih =>
    intro q h
    have hp := h p (List.mem_cons_self ..)
    rw [recs_cons, sizedB_cons]
    by_cases hn : q < (recB p).length
    · refine ⟨0, (recB p).take q, Nat.zero_le _, ?_, ?_, fun h => by omega, fun _ => by rw [List.length_cons]; omega⟩
      · rw [List.take_append_of_le_length (by omega)]; rfl
      refine pickB_part hp (List.take_append_drop q (recB p)) fun e => ?_
      have := congrArg List.length e
      rw [List.length_drop] at this
      simp at this
      omega
    obtain ⟨j, y, j1, j2, j3, j4, j5⟩ := ih (q - (recB p).length) fun x hx => h x (List.mem_cons_of_mem _ hx)
    refine ⟨j + 1, y, by rw [List.length_cons]; omega, ?_, j3, fun h => ?_, fun h => by rw [List.length_cons]; have := j5 (by omega); omega⟩
    · rw [List.take_append, List.take_of_length_le (by omega), j2, List.take_succ_cons, recs_cons, List.append_assoc]
    obtain ⟨a, b⟩ := j4 (by omega)
    exact ⟨by rw [List.length_cons, a], b⟩
/-! ### states of the files -/
theorem Sound.zero : wv0.Sound := ⟨by decide, by decide, by decide, rfl⟩
theorem Sound.take {v v' : Wv} {b : By} (h : v.Sound) (ht : v.take b = some v') : v'.Sound := by
  unfold Wv.take at ht
  dsimp only at ht
  split at ht
  · split at ht
    · rename_i hg; cases ht; exact Sound.hard h hg.1
    cases ht
  split at ht
  · split at ht
    · rename_i hg
      cases ht
      exact Sound.adds h (l := [⟨((⟨b, 0, 0⟩ : Sc).num.2.num.1 : Int), ((⟨b, 0, 0⟩ : Sc).num.2.num.2.num.1 : Int), ((⟨b, 0, 0⟩ : Sc).num.2.num.2.num.2.text 4096).1⟩]) (by rw [Wv.adds_cons, if_pos hg.1]; rfl)
    cases ht
  split at ht
  · split at ht
    · cases ht; exact Sound.cut h _
    cases ht
  cases ht
theorem Sound.runs : ∀ (L : List By) (v v' : Wv), v.Sound → v.runs L = some v' → v'.Sound := by
  intro L
  induction L with
  | nil => intro v v' h e; cases e; exact h
  | cons b L ih =>
    intro v v' h e
    rw [runs_cons] at e
    cases ht : v.take b with
    | none => rw [ht] at e; cases e
    | some u => rw [ht] at e; exact ih u v' (Sound.take h ht) e
/-- Readable files. -/
def Gr (T : Tab) (s : Wl) : Prop := s.v.Sound ∧ ((s = wl0 ∧ ∀ n, 1 ≤ n → n < 1000000000000 → (beginW (rowsB (tOld T (fileW n))).1).2 = 0) ∨ ∃ R x, Lines T s R x)
/-- The files of a log that is open. -/
def Gd (T : Tab) (s : Wl) : Prop := s.v.Sound ∧ ((s = wl0 ∧ ∀ n, 1 ≤ n → n < 1000000000000 → tGet T (fileW n) = none) ∨ ((∃ R, Lines T s R []) ∧ ∀ n, s.tt < n → n < 1000000000000 → tGet T (fileW n) = none))
theorem tOld_none {T : Tab} {n : Nm} (h : tGet T n = none) : tOld T n = [] := by unfold tOld; rw [h]; rfl
theorem rows_nil : rowsB [] = ([], 0) := rowsB_none pickB_nil
theorem Gd.gr {T : Tab} {s : Wl} (h : Gd T s) : Gr T s := by
  refine ⟨h.1, ?_⟩
  rcases h.2 with ⟨h1, h2⟩ | ⟨⟨R, h1⟩, -⟩
  · exact .inl ⟨h1, fun n n1 n2 => by rw [tOld_none (h2 n n1 n2), rows_nil]; rfl⟩
  exact .inr ⟨R, [], h1⟩
theorem read_gr {T : Tab} {s : Wl} (h : Gr T s) {d : DS} (ho : d.off = false) (hT : d.seen = T) (hr : tRise T) {l : List Nat} (hs : d.Segs l) : readS d l = s := by
  rcases h.2 with ⟨h1, h2⟩ | ⟨R, x, h1⟩
  · rw [h1]; exact read_none h2 ho hT hs
  exact read_lines h1 ho hT hr hs
theorem Lines.congr {T T' : Tab} {s : Wl} {R : Nat → List By} {x : By} (h : Lines T s R x) (hT : ∀ n, s.fr ≤ n → n < 1000000000000 → tGet T' (fileW n) = tGet T (fileW n)) : Lines T' s R x := by
  have h1 := h.frt
  have h2 := h.tt
  refine ⟨h.fr1, h.frt, h.tt, fun n n1 n2 => by rw [hT n n1 (by omega)]; exact h.seg n n1 n2, h.left, h.vs, h.sz, fun n n1 n2 => ?_⟩
  have e := hT n (by omega) n2
  have e2 : tOld T' (fileW n) = tOld T (fileW n) := by unfold tOld; rw [e]
  rw [e, e2]
  exact h.above n n1 n2
theorem Gd.del {T : Tab} {s : Wl} (hr : tRise T) (h : Gd T s) {n : Nat} (hn : n < s.fr) : Gd (tDel T (fileW n)) s := by
  refine ⟨h.1, ?_⟩
  rcases h.2 with ⟨h1, h2⟩ | ⟨⟨R, h1⟩, h2⟩
  · rw [h1] at hn; exact absurd hn (Nat.not_lt_zero _)
  have e : ∀ m, s.fr ≤ m → tGet (tDel T (fileW n)) (fileW m) = tGet T (fileW m) := fun m hm => tGet_del_other hr fun e => by have := fileW_inj e; omega
  refine .inr ⟨⟨R, h1.congr fun m m1 _ => e m m1⟩, fun m m1 m2 => ?_⟩
  rw [e m (by have := h1.frt; omega)]
  exact h2 m m1 m2
/-- What Open leaves. -/
theorem Gr.open_ {T T' : Tab} {s : Wl} (h : Gr T s) (hk : ∀ n, 1 ≤ n → n < 1000000000000 → tGet T' (fileW n) = keptW s T n) : Gd T' s := by
  refine ⟨h.1, ?_⟩
  rcases h.2 with ⟨h1, h2⟩ | ⟨R, x, h1⟩
  · refine .inl ⟨h1, fun n n1 n2 => ?_⟩
    rw [hk n n1 n2, h1]
    unfold keptW
    rw [if_pos (show goesW wl0 n from .inr (by show 0 < n; omega))]
  have a1 := h1.fr1
  have a2 := h1.frt
  have a3 := h1.tt
  refine .inr ⟨⟨R, h1.fr1, h1.frt, h1.tt, fun n n1 n2 => ?_, ?_, h1.vs, h1.sz, fun n n1 n2 => .inl ?_⟩, fun n n1 n2 => ?_⟩
  · obtain ⟨c1, c2, c3⟩ := h1.seg n n1 n2
    refine ⟨?_, c2, c3⟩
    rw [hk n (by omega) (by omega)]
    unfold keptW
    rw [if_neg (by unfold goesW; omega), c1]
    by_cases hn : n = s.tt
    · rw [if_pos hn, if_pos hn, if_pos hn, Option.map_some, h1.sz, hn, ← recs_len, List.take_left, List.append_nil]
    rw [if_neg hn, if_neg hn, if_neg hn]
  · exact rows_left _ _ (h1.seg s.tt h1.frt (Nat.le_refl _)).2.1 pickB_nil
  · rw [hk n (by omega) n2]; unfold keptW; rw [if_pos (show goesW s n from .inr n1)]
  rw [hk n (by omega) n2]; unfold keptW; rw [if_pos (show goesW s n from .inr n1)]
theorem smallR.append {L M : List By} (h : smallR L) (k : smallR M) : smallR (L ++ M) := fun p hp => by
  rcases List.mem_append.1 hp with hp | hp
  · exact h p hp
  exact k p hp
theorem smallR.part {L : List By} (h : smallR L) (j : Nat) : smallR (L.take j) := fun p hp => h p (List.mem_of_mem_take hp)
theorem sizedB_append (L M : List By) : sizedB (L ++ M) = sizedB L + sizedB M := by rw [← recs_len, ← recs_len, ← recs_len, recs_append, List.length_append]
/-- More records in the last segment. -/
theorem Lines.more {T : Tab} {s : Wl} {R : Nat → List By} (hr : tRise T) (h : Lines T s R []) (ha : ∀ n, s.tt < n → n < 1000000000000 → tGet T (fileW n) = none) {M : List By} {y : By} {v : Wv} (hM : smallR M) (hy : (pickB y).2.2 ≠ 0) (hv : s.v.runs M = some v) :
    ∃ R', Lines (tPut T (fileW s.tt) (recs (R s.tt ++ M) ++ y)) ⟨v, s.fr, s.tt, s.sz + sizedB M⟩ R' y ∧ R' s.tt = R s.tt ++ M := by
  obtain ⟨c1, c2, c3⟩ := h.seg s.tt h.frt (Nat.le_refl _)
  obtain ⟨v0, k0, vs, hb, hk, hrun, hvs, hvt⟩ := h.vs
  have a2 := h.frt
  refine ⟨fun n => if n = s.tt then R s.tt ++ M else R n, ⟨h.fr1, h.frt, h.tt, fun n n1 n2 => ?_, ?_, ?_, ?_, fun n n1 n2 => .inl ?_⟩, if_pos rfl⟩
  · by_cases hn : n = s.tt
    · subst hn
      dsimp only
      rw [tGet_put_eq hr, if_pos rfl, if_pos rfl]
      exact ⟨rfl, c2.append hM, fun e => c3 (List.append_eq_nil_iff.1 e).1⟩
    obtain ⟨d1, d2, d3⟩ := h.seg n n1 n2
    dsimp only
    rw [tGet_put_other hr fun e => hn (fileW_inj e), d1, if_neg hn, if_neg hn, if_neg hn]
    exact ⟨rfl, d2, d3⟩
  · dsimp only
    rw [if_pos rfl]
    exact rows_left _ _ (c2.append hM) hy
  · by_cases hft : s.fr = s.tt
    · have hk2 : k0 ≤ (R s.tt).length := by have := (begin_ok (R s.fr)).1; rw [hb, hft] at this; exact this
      have hbm : beginW (R s.tt ++ M) = (v0, k0) := begin_more (by rw [← hft]; exact hb) hk M
      refine ⟨v0, k0, fun n => v, by dsimp only; rw [if_pos hft]; exact hbm, hk, ?_, fun n n1 n2 => by dsimp only at n1 n2; omega, rfl⟩
      dsimp only
      rw [if_pos hft, List.drop_append_of_le_length hk2, runs_append]
      rw [hft] at hrun
      rw [hrun]
      show Wv.runs (vs s.tt) M = _
      rw [hvt]; exact hv
    refine ⟨v0, k0, fun n => if n = s.tt then v else vs n, by dsimp only; rw [if_neg hft]; exact hb, hk, by dsimp only; rw [if_neg hft, if_neg hft]; exact hrun, fun n n1 n2 => ?_, by dsimp only; rw [if_pos rfl]⟩
    dsimp only at n1 n2 ⊢
    rw [if_neg (by omega)]
    by_cases hn : n + 1 = s.tt
    · rw [if_pos hn, if_pos hn]
      have e1 := hvs n n1 n2
      rw [hn] at e1
      rw [runs_append, e1, hvt]
      exact hv
    rw [if_neg hn, if_neg hn]; exact hvs n n1 n2
  · dsimp only
    rw [if_pos rfl, sizedB_append, h.sz]
  dsimp only at n1
  rw [tGet_put_other hr fun e => by have := fileW_inj e; omega]
  exact ha n n1 n2
where
  begin_more {L : List By} {v0 : Wv} {k0 : Nat} (h : beginW L = (v0, k0)) (hk : k0 ≠ 0) (M : List By) : beginW (L ++ M) = (v0, k0) := by
    have gen : ∀ (L : List By) (k : Nat) (v : Wv), (goWV k v L).2 ≠ 0 → goWV k v (L ++ M) = goWV k v L := by
      intro L
      induction L with
      | nil => intro k v h; exact absurd rfl h
      | cons b L ih =>
        intro k v h
        rw [List.cons_append, goWV_cons, goWV_cons]
        rw [goWV_cons] at h
        by_cases hb : b = [5]
        · rw [if_pos hb, if_pos hb]
        rw [if_neg hb] at h
        rw [if_neg hb, if_neg hb]
        cases ht : v.take b with
        | none => rfl
        | some u => rw [ht] at h; exact ih _ _ h
    cases L with
    | nil => cases h; exact absurd rfl hk
    | cons b r =>
      rw [List.cons_append]
      unfold beginW at h ⊢
      dsimp only at h ⊢
      split at h
      · rename_i hc
        rw [if_pos hc, gen _ _ _ (by rw [h]; exact hk)]
        exact h
      cases h; exact absurd rfl hk
/-- Records in a new segment. -/
theorem Lines.next {T : Tab} {s : Wl} {R : Nat → List By} (hr : tRise T) (h : Lines T s R []) (ha : ∀ n, s.tt < n → n < 1000000000000 → tGet T (fileW n) = none) (htt : s.tt < 999999999998) {M : List By} {y : By} {v : Wv} (hM : smallR M) (hne : M ≠ []) (hy : (pickB y).2.2 ≠ 0) (hv : s.v.runs M = some v) :
    ∃ R', Lines (tPut T (fileW (s.tt + 1)) (recs M ++ y)) ⟨v, s.fr, s.tt + 1, sizedB M⟩ R' y := by
  obtain ⟨v0, k0, vs, hb, hk, hrun, hvs, hvt⟩ := h.vs
  have a2 := h.frt
  refine ⟨fun n => if n = s.tt + 1 then M else R n, ⟨h.fr1, by dsimp only; omega, by dsimp only; omega, fun n n1 n2 => ?_, ?_, ⟨v0, k0, fun n => if n = s.tt + 1 then v else vs n, ?_, hk, ?_, fun n n1 n2 => ?_, ?_⟩, ?_, fun n n1 n2 => .inl ?_⟩⟩
  · dsimp only at n1 n2 ⊢
    by_cases hn : n = s.tt + 1
    · subst hn
      rw [tGet_put_eq hr, if_pos rfl, if_pos rfl]
      exact ⟨rfl, hM, hne⟩
    obtain ⟨d1, d2, d3⟩ := h.seg n n1 (by omega)
    rw [tGet_put_other hr fun e => hn (fileW_inj e), d1, if_neg hn, if_neg hn]
    refine ⟨?_, d2, d3⟩
    split <;> rfl
  · dsimp only
    rw [if_pos rfl]
    exact rows_left _ _ hM hy
  · dsimp only
    rw [if_neg (by omega)]; exact hb
  · dsimp only
    rw [if_neg (by omega), if_neg (by omega)]; exact hrun
  · dsimp only at n1 n2 ⊢
    rw [if_neg (by omega)]
    by_cases hn : n = s.tt
    · subst hn
      rw [if_pos rfl, if_pos rfl, hvt]; exact hv
    rw [if_neg (by omega), if_neg (by omega)]; exact hvs n n1 (by omega)
  · dsimp only
    rw [if_pos rfl]
  · dsimp only
    rw [if_pos rfl]
  dsimp only at n1
  rw [tGet_put_other hr fun e => by have := fileW_inj e; omega]
  exact ha n (by omega) n2
/-- A new segment of which no record is whole, or that does not stand alone and does not go on. -/
theorem Lines.dead {T : Tab} {s : Wl} {R : Nat → List By} (hr : tRise T) (h : Lines T s R []) (ha : ∀ n, s.tt < n → n < 1000000000000 → tGet T (fileW n) = none) {b : By} (h1 : (beginW (rowsB b).1).2 = 0) (h2 : (s.v.more (rowsB b).1).2 = 0) :
    Lines (tPut T (fileW (s.tt + 1)) b) s R [] := by
  have a2 := h.frt
  refine ⟨h.fr1, h.frt, h.tt, fun n n1 n2 => ?_, h.left, h.vs, h.sz, fun n n1 n2 => ?_⟩
  · rw [tGet_put_other hr fun e => by have := fileW_inj e; omega]
    exact h.seg n n1 n2
  by_cases hn : n = s.tt + 1
  · subst hn
    have e : tOld (tPut T (fileW (s.tt + 1)) b) (fileW (s.tt + 1)) = b := by unfold tOld; rw [tGet_put_eq hr]; rfl
    rw [e]
    exact .inr ⟨rfl, h1, h2⟩
  rw [tGet_put_other hr fun e => hn (fileW_inj e)]
  exact .inl (ha n n1 n2)
/-- A segment that stands alone. -/
theorem Lines.alone {T : Tab} (hr : tRise T) {n : Nat} (hn1 : 1 ≤ n) (hn2 : n < 999999999999) (ha : ∀ m, n < m → m < 1000000000000 → tGet T (fileW m) = none) {nv v : Wv} (hs : nv.Sound) (hsm : smallR (wholeR nv)) {M : List By} {y : By} (hM : smallR M) (hy : (pickB y).2.2 ≠ 0) (hv : nv.runs M = some v) :
    Lines (tPut T (fileW n) (recs (wholeR nv ++ M) ++ y)) ⟨v, n, n, sizedB (wholeR nv ++ M)⟩ (fun _ => wholeR nv ++ M) y := by
  refine ⟨hn1, Nat.le_refl _, hn2, fun m m1 m2 => ?_, rows_left _ _ (hsm.append hM) hy, ⟨nv, (wholeR nv).length, fun _ => v, begin_whole hs M, by unfold wholeR; simp, ?_, fun m m1 m2 => by dsimp only at m1 m2; omega, rfl⟩, rfl, fun m m1 m2 => .inl ?_⟩
  · dsimp only at m1 m2 ⊢
    obtain rfl : m = n := by omega
    rw [tGet_put_eq hr, if_pos rfl]
    exact ⟨rfl, hsm.append hM, by unfold wholeR; simp⟩
  · rw [List.drop_append_of_le_length (Nat.le_refl _), List.drop_length, List.nil_append]; exact hv
  dsimp only at m1
  rw [tGet_put_other hr fun e => by have := fileW_inj e; omega]
  exact ha m m1 m2
end Go.Proofs.YtikjckdoldiddaaGreatDoor
