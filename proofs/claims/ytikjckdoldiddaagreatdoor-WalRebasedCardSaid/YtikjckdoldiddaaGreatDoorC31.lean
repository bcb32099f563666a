/- The walk of the law's begun. -/
import Derived.Test.YtikjckdoldiddaaGreatDoorC27
import Derived.Test.YtikjckdoldiddaaGreatDoorC30
import Derived.Test.YtikjckdoldiddaaGreatDoorC25
namespace Go.Proofs.YtikjckdoldiddaaGreatDoor
open Go.RowKit Go.Maps
set_option linter.unusedVariables false
set_option linter.unusedSimpArgs false
attribute [local go_sem] bmax2 bmin2 bmax_two bmin_two

theorem VsR.one (F : Nat → Prop) {B : Nat} {w : World} (u : Wv) (y : VH) (hB : B ≤ w.heap.size) (hy : EsF F w y.1 y.2.1 y.2.2 u.l) (hF : ∀ q, F q → q < w.heap.size) :
    VsR F B (w.alloc (.cells (vcell u y).toArray 42)) (.slice (some ⟨w.heap.size, 0, none⟩) 1 1) [u] := by
  refine ⟨[y], rfl, ⟨rfl, .inr ⟨w.heap.size, 1, (vcell u y).toArray, rfl, hB, heap_alloc_new w _, Nat.le_refl _, by unfold maxLen; omega, rfl, ?_⟩⟩, fun k h1 h2 => ?_⟩
  · show (vcell u y).take 5 = vcell u y ++ []
    rw [List.append_nil]; rfl
  obtain rfl : k = 0 := by simpa using h1
  exact hy.keep fun q hq hl => ⟨⟨hq, fun e => by have e : some w.heap.size = some q := e; injection e with e; have := hF q hq; omega⟩, (ext_alloc w _).block q hl⟩
def lo0 (room : Int) : Lo := ⟨wl0, DS.new room⟩
theorem open_newW (room : Int) : (DS.new room).Segs [] ∧ openW (DS.new room) [] = (0, DS.new room) ∧ readS (DS.new room) [] = wl0 := by
  exact ⟨⟨rfl, (fun n hn => by cases hn), Nat.zero_le _, Nat.zero_le _⟩, rfl, rfl⟩
theorem lo0_fit {room : Int} (h0 : 0 ≤ room) (h1 : room ≤ 16777216) : (lo0 room).Fit 0 0 :=
  ⟨DS.new_ok room h0 h1, ⟨fun p hp => (by cases hp), fun a ha => by cases ha⟩, Nat.zero_le _, Wl.zero_fine.v.i64, Wl.zero_fine.v.big, Wl.zero_fine.v.len, Nat.le_refl _, Nat.le_refl _, Nat.le_refl _, by show 0 ≤ _; omega⟩
def BegunPost (room : Int) (w : World) (e : Ending) (w' : World) : Prop :=
  ∃ dg g A, e = .returned (.tuple #[.pointer (some ⟨dg, 0, none⟩), .pointer (some ⟨g, 0, none⟩), .bool true]) ∧ LoAt A w' g dg (lo0 room) ∧ (∀ q, A q → w.heap.size ≤ q) ∧ Ext w w'
theorem begun_any {w : World} (hT : TabP w) {room : Int} (h0 : 0 ≤ room) (h1 : room ≤ 16777216) :
    Calls Tryz.prog 14 #[.int .i64 room] w (BegunPost room w) := by
  have HN := hid (New_any room w)
  have hok := DS.new_ok room h0 h1
  obtain ⟨hs, ho, hk⟩ := open_newW room
  have HOK := hid hok
  have HT := hid hT
  have HO := hid ho
  have HK := hid hk
  have HS := hid hs
  have HR := hid (show 0 ≤ room ∧ room ≤ 16777216 from ⟨h0, h1⟩)
  have hac : (DS.new room).acts.length = 0 := rfl
  have HAC := hid hac
  clear hok ho hk hT h0 h1 hac hs
  go_enter Tryz.func14, Tryz.ntmps14
  go_wp2_with fail
  refine Calls.mono HN.out ?_
  rintro e w1 (⟨-, -, dg, rfl, hd, hx1⟩ | ⟨hno, -⟩)
  · have HD := hid hd
    have HX1 := hid hx1
    have HOP := hid (OpenW_any hd HOK.out HS.out (by rw [HAC.out]; omega) (HT.out.ext hx1) (fun h => by rcases h with h | h; exact h; have := HT.out.lt; omega))
    clear hd hx1
    go_wp2_with fail
    refine Calls.mono HOP.out ?_
    rintro e w2 hop
    rw [HO.out, HK.out] at hop
    rcases hop with ⟨h, -⟩ | ⟨-, g, rfl, hv, hf, -⟩
    · exact absurd rfl h
    have HV := hid hv
    have HF := hid hf
    clear hv hf
    go_wp2
    go_ret3
    refine ⟨dg, g, _, rfl, HV.out, fun q hq => ?_, ?_⟩
    · rcases hq with (hq | hq) | hq
      · exact hq.elim
      · exact hq.1
      have := HX1.out.size; omega
    exact ((Frm.of_ext HX1.out (fun _ => False)).trans HF.out fun q hq => by
      rcases hq with hq | hq
      · exact hq.elim
      exact .inr hq.1).ext
  exact absurd HR.out hno
end Go.Proofs.YtikjckdoldiddaaGreatDoor

/- What the law's play leads to: plain; what is known between its calls. -/
namespace Go.Proofs.YtikjckdoldiddaaGreatDoor
open Go.RowKit Go.Maps
set_option linter.unusedVariables false
set_option linter.unusedSimpArgs false

def DoW.k (d : DoW) : Int := (IntKind.u64.wrap d.o).tmod 9
theorem DoW.k_in (d : DoW) : 0 ≤ d.k ∧ d.k ≤ 8 := by
  have h : 0 ≤ IntKind.u64.wrap d.o := by rw [IntKind.wrap_u64]; omega
  unfold DoW.k
  have h1 := Int.tmod_nonneg 9 h
  have h2 := Int.tmod_lt_of_pos (IntKind.u64.wrap d.o) (show (0 : Int) < 9 by decide)
  omega
def Lo.stepL (v : Lo) (d : DoW) : Int × Lo :=
  if d.k = 3 then v.hard d.ht d.hv else if d.k = 4 then v.cut d.n else if d.k = 5 then v.rebase d.n d.t else if d.k = 6 ∨ d.k = 7 ∨ d.k = 8 then v.sync else v.app d.l
/-- The views behind each of some entries. -/
def midsTo (v : Wv) (l : List Ent) (i : Nat) : List Wv := (List.range i).map fun j => { v with l := v.l ++ l.take (j + 1) }
theorem midsTo_succ (v : Wv) (l : List Ent) (i : Nat) : midsTo v l (i + 1) = midsTo v l i ++ [{ v with l := v.l ++ l.take (i + 1) }] := by
  unfold midsTo; rw [List.range_succ, List.map_append]; rfl
def Lo.stepA (v : Lo) (d : DoW) (all : List Wv) : List Wv :=
  if d.k = 3 ∨ d.k = 4 then all else if d.k = 5 ∨ d.k = 6 ∨ d.k = 7 ∨ d.k = 8 then (if (v.stepL d).1 = 0 then [] else all) else (if (v.stepL d).1 = 0 then all ++ midsTo v.s.v d.l d.l.length else all)
def stepP (s : Lo × List Wv) (d : DoW) : Lo × List Wv := ((s.1.stepL d).2, s.1.stepA d s.2 ++ [(s.1.stepL d).2.s.v])
def playV (v : Lo) (all : List Wv) (D : List DoW) : Lo × List Wv := D.foldl stepP (v, all)
theorem playV_take (v : Lo) (all : List Wv) (D : List DoW) (k : Nat) (hk : k < D.length) : playV v all (D.take (k + 1)) = stepP (playV v all (D.take k)) D[k] := by
  unfold playV
  rw [List.take_succ_eq_append_getElem hk, List.foldl_append]; rfl
theorem wtE_20 (l : List Ent) : wtE l ≤ 3 * wt20 l := by
  unfold wtE wt20
  induction l with
  | nil => exact Nat.le_refl _
  | cons e r ih => rw [List.map_cons, List.sum_cons, List.map_cons, List.sum_cons]; omega
theorem stepL_fit {v : Lo} {k m : Nat} (h : v.Fit k m) (hk : k ≤ 5000) (hm : m ≤ 500000000) (d : DoW) (hl : wtE d.l ≤ 500000000) (ht : In64 d.t) : (v.stepL d).2.Fit (k + 1) (m + wtE d.l) := by
  unfold Lo.stepL
  split
  · exact (Lo.hard_fit h _ _).le (Nat.le_refl _) (Nat.le_add_right _ _)
  split
  · exact (Lo.cut_fit h _).le (Nat.le_refl _) (Nat.le_add_right _ _)
  split
  · exact (Lo.rebase_fit h hk hm _ _ ht).le (Nat.le_refl _) (Nat.le_add_right _ _)
  split
  · exact (Lo.sync_fit h).le (Nat.le_succ _) (Nat.le_add_right _ _)
  exact Lo.app_fit h hl
def DoW.i64 (d : DoW) : Prop := In64 d.o ∧ In64 d.ht ∧ In64 d.hv ∧ In64 d.n ∧ In64 d.t ∧ In64 d.kp ∧ In64 d.tr
theorem playV_fit {v : Lo} {k m : Nat} (h : v.Fit k m) (all : List Wv) (D : List DoW) (h64 : ∀ d ∈ D, In64 d.t) (hD : D.length ≤ 60) (hW : sumW D ≤ 131072) (hk : k ≤ 1000) (hm : m ≤ 400000000) :
    ∀ j, j ≤ D.length → (playV v all (D.take j)).1.Fit (k + j) (m + 3 * sumW (D.take j)) := by
  intro j
  induction j with
  | zero => intro _; exact h
  | succ j ih =>
    intro hj
    have hjl : j < D.length := by omega
    have h1 := ih (by omega)
    have h2 := sumW_take D j hjl
    have h3 : sumW (D.take (j + 1)) ≤ sumW D := by
      have e : sumW D = sumW (D.take (j + 1)) + sumW (D.drop (j + 1)) := by
        conv => lhs; rw [← List.take_append_drop (j + 1) D]
        unfold sumW; rw [List.map_append, List.sum_append]
      omega
    have h4 := wtE_20 D[j].l
    rw [playV_take v all D j hjl]
    exact (stepL_fit h1 (by omega) (by omega) D[j] (by omega) (h64 _ (List.getElem_mem hjl))).le (by omega) (by omega)
/-! ### between the calls -/
def PlayInv (A : Nat → Prop) (g dg : Nat) (w : World) (v : Lo) (all : List Wv) (val : Value) (w' : World) : Prop :=
  ∃ A', LoAt A' w' g dg v ∧ VsR (fun q => ¬ A' q) w.heap.size w' val all ∧ (∀ q, val.ownBlock = some q → ¬ A' q) ∧ (∀ q, A' q → A q ∨ w.heap.size ≤ q) ∧ Frm A w w'
theorem PlayInv.ext {A : Nat → Prop} {g dg : Nat} {w w1 w2 : World} {v : Lo} {all : List Wv} {val : Value} (h : PlayInv A g dg w v all val w1) (hx : Ext w1 w2) : PlayInv A g dg w v all val w2 := by
  obtain ⟨A', h1, h2, h3, h4, h5⟩ := h
  exact ⟨A', h1.below hx, h2.ext hx, h3, h4, h5.then_ext hx⟩
/-- The log did something. -/
theorem play_log {A A' : Nat → Prop} {g dg : Nat} {w w1 w2 : World} {r : Int × Lo} {e : Ending} {all : List Wv} {val : Value} (h2 : VsR (fun q => ¬ A' q) w.heap.size w1 val all) (h3 : ∀ q, val.ownBlock = some q → ¬ A' q) (h4 : ∀ q, A' q → A q ∨ w.heap.size ≤ q) (h5 : Frm A w w1)
    (hp : LoPost A' g dg r w1 e w2) : LoAt (Go.Proofs.YtikjckdoldiddaaGreatDoor.grow A' w1 w2) w2 g dg r.2 ∧ VsR (fun q => ¬ Go.Proofs.YtikjckdoldiddaaGreatDoor.grow A' w1 w2 q) w.heap.size w2 val all ∧ (∀ q, val.ownBlock = some q → ¬ Go.Proofs.YtikjckdoldiddaaGreatDoor.grow A' w1 w2 q) ∧ (∀ q, Go.Proofs.YtikjckdoldiddaaGreatDoor.grow A' w1 w2 q → A q ∨ w.heap.size ≤ q) ∧ Frm A w w2 := by
  obtain ⟨-, p1, p2⟩ := hp
  have z1 := h5.size
  have z2 := p2.size
  have hout : ∀ q, ¬ A' q → q < w1.heap.size → ¬ Go.Proofs.YtikjckdoldiddaaGreatDoor.grow A' w1 w2 q := fun q hq hl h => by
    rcases h with h | h
    · exact hq h
    omega
  refine ⟨p1, h2.keep (fun q hq => p2.block q (h2.at_ q hq).2 (h3 q hq)) fun q hq hl => ⟨hout q hq hl, p2.block q hl hq⟩, fun q hq => hout q (h3 q hq) (h2.at_ q hq).2, fun q hq => ?_, h5.trans p2 fun q hq => (h4 q hq)⟩
  rcases hq with hq | hq
  · exact h4 q hq
  exact .inr (by omega)
theorem PlayInv.log {A A' : Nat → Prop} {g dg : Nat} {w w1 w2 : World} {r : Int × Lo} {e : Ending} {all : List Wv} {val : Value} (h2 : VsR (fun q => ¬ A' q) w.heap.size w1 val all) (h3 : ∀ q, val.ownBlock = some q → ¬ A' q) (h4 : ∀ q, A' q → A q ∨ w.heap.size ≤ q) (h5 : Frm A w w1)
    (hp : LoPost A' g dg r w1 e w2) : PlayInv A g dg w r.2 all val w2 := ⟨_, play_log h2 h3 h4 h5 hp⟩
/-- A view was put behind the others. -/
theorem PlayInv.put {A A' : Nat → Prop} {g dg : Nat} {w w1 w2 : World} {v : Lo} {all all2 : List Wv} {val val2 : Value} (h1 : LoAt A' w1 g dg v) (h2 : VsR (fun q => ¬ A' q) w.heap.size w1 val all) (h3 : ∀ q, val.ownBlock = some q → ¬ A' q) (h4 : ∀ q, A' q → A q ∨ w.heap.size ≤ q) (h5 : Frm A w w1)
    (k1 : VsR (fun q => ¬ A' q) w.heap.size w2 val2 all2) (k2 : Frm (fun q => val.ownBlock = some q) w1 w2) (k3 : ∀ q, val2.ownBlock = some q → val.ownBlock = some q ∨ q = w1.heap.size) : PlayInv A g dg w v all2 val2 w2 := by
  refine ⟨A', h1.frm k2 fun q hq hE => h3 q hE hq, k1, fun q hq hA => ?_, h4, h5.trans k2 fun q hq => .inr (h2.at_ q hq).1⟩
  rcases k3 q hq with h | h
  · exact h3 q h hA
  have := h1.lt q hA; omega
theorem PlayInv.nil {A : Nat → Prop} {g dg : Nat} {w w1 : World} {v : Lo} {all : List Wv} {val : Value} (h : PlayInv A g dg w v all val w1) : PlayInv A g dg w v [] (.slice none 0 0) w1 := by
  obtain ⟨A', h1, h2, h3, h4, h5⟩ := h
  exact ⟨A', h1, VsR.nil_ _ _ _, (fun q hq => by cases hq), h4, h5⟩
def PlayPost (A : Nat → Prop) (g dg : Nat) (r : Lo × List Wv) (w : World) (e : Ending) (w' : World) : Prop := ∃ val, e = .returned val ∧ PlayInv A g dg w r.1 r.2 val w'
end Go.Proofs.YtikjckdoldiddaaGreatDoor

/- Plain: the law's play on a calm disk; opening behind a crash. -/
namespace Go.Proofs.YtikjckdoldiddaaGreatDoor
open Go.RowKit Go.Maps
set_option linter.unusedVariables false
set_option linter.unusedSimpArgs false

/-! ### how many bytes -/
theorem hiB_le : ∀ (f k n : Nat), n < 128 ^ k → (hiB f n).length ≤ k := by
  intro f
  induction f with
  | zero => intro k n _; exact Nat.zero_le _
  | succ f ih =>
    intro k n h
    by_cases h0 : n = 0
    · subst h0; rw [hiB_zero]; exact Nat.zero_le _
    cases k with
    | zero => simp at h; exact absurd h h0
    | succ k =>
      rw [hiB_succ f n h0, List.length_append, List.length_singleton]
      have := ih k (n / 128) (by rw [Nat.div_lt_iff_lt_mul (by omega)]; rw [Nat.pow_succ] at h; exact h)
      omega
theorem numS_le {x : Int} (h0 : 0 ≤ x) (k : Nat) (h : x.toNat < 128 ^ (k + 1)) : (numS x).length ≤ k + 1 := by
  have e : (max x 0).toNat = x.toNat := by omega
  unfold numS numB
  rw [e, List.length_append, List.length_singleton]
  have := hiB_le 8 k (x.toNat / 128) (by rw [Nat.div_lt_iff_lt_mul (by omega)]; rw [Nat.pow_succ] at h; exact h)
  omega
def wt22 (l : List Ent) : Nat := (l.map fun e => 22 + e.d.length).sum
theorem wt22_append (l r : List Ent) : wt22 (l ++ r) = wt22 l + wt22 r := by unfold wt22; rw [List.map_append, List.sum_append]
theorem wt22_20 (l : List Ent) : 10 * wt22 l ≤ 11 * wt20 l := by
  unfold wt22 wt20
  induction l with
  | nil => exact Nat.le_refl _
  | cons e r ih => rw [List.map_cons, List.sum_cons, List.map_cons, List.sum_cons]; omega
theorem entB_22 {v : Wv} {e : Ent} (h : v.good e = true) : (entB e).length ≤ 22 + e.d.length := by
  obtain ⟨-, ⟨h1, h2⟩, ⟨h3, h4⟩, h5⟩ := good_iff h
  have a0 : (entB e).length = 1 + (numB (payB [2, e.i, e.t] true e.d).length).length + (payB [2, e.i, e.t] true e.d).length + 4 := recB_len _
  have a1 : (numS 2).length ≤ 1 := numS_le (by decide) 0 (by decide)
  have a2 : (numS e.i).length ≤ 6 := numS_le (by omega) 5 (by have h7 : (128 : Nat) ^ (5 + 1) = 4398046511104 := (by decide); omega)
  have a3 : (numS e.t).length ≤ 6 := numS_le (by omega) 5 (by have h7 : (128 : Nat) ^ (5 + 1) = 4398046511104 := (by decide); omega)
  have a4 : (numS (e.d.length : Int)).length ≤ 2 := numS_le (by omega) 1 (by have h7 : (128 : Nat) ^ (1 + 1) = 16384 := (by decide); omega)
  have a5 : (payB [2, e.i, e.t] true e.d).length ≤ 15 + e.d.length := by
    rw [payE]
    simp only [List.length_append, List.length_nil]
    omega
  have a6 : (numB (payB [2, e.i, e.t] true e.d).length).length ≤ 2 := by
    have h6 := numS_le (x := ((payB [2, e.i, e.t] true e.d).length : Int)) (by omega) 1 (by have h7 : (128 : Nat) ^ (1 + 1) = 16384 := (by decide); omega)
    have e1 : numS ((payB [2, e.i, e.t] true e.d).length : Int) = numB (payB [2, e.i, e.t] true e.d).length := by unfold numS; congr 1
    rw [e1] at h6; exact h6
  omega
theorem entsB_22 : ∀ (l : List Ent) (v n : Wv), v.adds l = some n → (entsB l).length ≤ wt22 l := by
  intro l
  induction l with
  | nil => intro v n _; exact Nat.le_refl _
  | cons e r ih =>
    intro v n h
    rw [Wv.adds_cons] at h
    split at h
    · rename_i hg
      have h1 := entB_22 hg
      have h2 := ih _ _ h
      have e1 : entsB (e :: r) = entB e ++ entsB r := rfl
      have e2 : wt22 (e :: r) = 22 + e.d.length + wt22 r := rfl
      rw [e1, e2, List.length_append]
      omega
    cases h
theorem whole_22 {v : Wv} (h : v.Sound) : v.whole.length ≤ wt22 v.l + 123 := by
  unfold Wv.whole
  simp only [List.length_append]
  have h1 : (startB v.i v.t).length ≤ 41 := small_rec [4, v.i, v.t] (Nat.le_refl _)
  have h2 : (hardB v.ht v.hv).length ≤ 41 := small_rec [1, v.ht, v.hv] (Nat.le_refl _)
  have h3 : endB.length ≤ 41 := small_rec [5] (by decide)
  have h4 := entsB_22 _ _ _ h.l
  omega
theorem wt22_take (l : List Ent) (n : Nat) : wt22 (l.take n) ≤ wt22 l := by
  have h := wt22_append (l.take n) (l.drop n)
  rw [List.take_append_drop] at h
  omega
theorem wt22_drop (l : List Ent) (n : Nat) : wt22 (l.drop n) ≤ wt22 l := by
  have h := wt22_append (l.take n) (l.drop n)
  rw [List.take_append_drop] at h
  omega
theorem wt22_len (l : List Ent) : 22 * l.length ≤ wt22 l := by
  unfold wt22
  induction l with
  | nil => exact Nat.le_refl _
  | cons e r ih => rw [List.map_cons, List.sum_cons, List.length_cons]; omega
/-! ### how many files -/
theorem rise_len : ∀ (l : List Nat) (k a : Nat), l.Pairwise (· < ·) → (∀ n ∈ l, a < n ∧ n ≤ k) → l.length ≤ k - a := by
  intro l
  induction l with
  | nil => intro k a _ _; exact Nat.zero_le _
  | cons n r ih =>
    intro k a hp h
    obtain ⟨h1, h2⟩ := h n (List.mem_cons_self ..)
    obtain ⟨p1, p2⟩ := List.pairwise_cons.1 hp
    have := ih k n p2 fun m hm => ⟨p1 m hm, (h m (List.mem_cons_of_mem _ hm)).2⟩
    rw [List.length_cons]
    omega
theorem names_list : ∀ (T : Tab) (k : Nat), tP (isWk k) T → ∃ l : List Nat, T.map Prod.fst = l.map fileW ∧ ∀ n ∈ l, 0 < n ∧ n ≤ k := by
  intro T k
  induction T with
  | nil => intro _; exact ⟨[], rfl, fun n hn => by cases hn⟩
  | cons p T ih =>
    intro h
    obtain ⟨l, h1, h2⟩ := ih fun q hq => h q (List.mem_cons_of_mem _ hq)
    obtain ⟨n, n1, n2, n3⟩ := h p (List.mem_cons_self ..)
    refine ⟨n :: l, by rw [List.map_cons, List.map_cons, h1, n3], fun m hm => ?_⟩
    rcases List.mem_cons.1 hm with rfl | hm
    · exact ⟨n1, n2⟩
    exact h2 m hm
theorem files_le {T : Tab} {k : Nat} (hk : k < 1000000000000) (hr : tRise T) (h : tP (isWk k) T) : T.length ≤ k := by
  obtain ⟨l, h1, h2⟩ := names_list T k h
  have h3 : (T.map Prod.fst).Pairwise (fun a b => bytesBefore a b = true) := List.pairwise_map.2 hr
  rw [h1, List.pairwise_map] at h3
  have h4 : l.Pairwise (· < ·) := h3.imp_of_mem fun {a b} ha hb hab => fileW_lt (by have := (h2 a ha).2; omega) (by have := (h2 b hb).2; omega) hab
  have h5 := rise_len l k 0 h4 h2
  have h6 := congrArg List.length h1
  rw [List.length_map, List.length_map] at h6
  omega
/-! ### a step of the law's play -/
structure Lo.Cap (v : Lo) (k m : Nat) : Prop where
  used : v.d.used ≤ 150000 * k
  wt : wt22 v.s.v.l ≤ m
theorem Done.cap {v r : Lo} {n : Wv} {V : Wv → Prop} {W k m : Nat} (h : Done v r n V W) (hc : v.Cap k m) (hW : W ≤ 150000) {m' : Nat} (hn : wt22 n.l ≤ m') : r.Cap (k + 1) m' :=
  ⟨by have := h.used; have := hc.used; omega, by rw [h.view]; exact hn⟩
theorem Lo.Cap.le {v : Lo} {k m j n : Nat} (h : v.Cap k m) (hk : k ≤ j) (hm : m ≤ n) : v.Cap j n := ⟨by have := h.used; omega, by have := h.wt; omega⟩
def inAll (all : List Wv) (u : Wv) : Prop := u ∈ all
theorem Sound.last_lt {v : Wv} (h : v.Sound) {m : Nat} (hm : wt22 v.l ≤ m) (hm2 : m ≤ 1000000) : v.last < 9223372036854775808 := by
  have h1 := within_big h.i
  have h2 := wt22_len v.l
  unfold Wv.last
  omega
theorem step_good {v : Lo} {all : List Wv} {k m : Nat} (h : v.Good (inAll all)) (hc : v.Cap k m) (htt : v.s.tt < 999999999998) (d : DoW) (hm : m + wt22 d.l ≤ 149000) :
    (v.stepL d).2.Good (inAll (v.stepA d all ++ [(v.stepL d).2.s.v])) ∧ (v.stepL d).2.Cap (k + 1) (m + wt22 d.l) ∧ (v.stepL d).2.d.room = v.d.room := by
  have hsame : ∀ (z : Int) (A : List Wv), (∀ u, u ∈ all → u ∈ A) → (v.Good (inAll (A ++ [v.s.v])) ∧ v.Cap (k + 1) (m + wt22 d.l) ∧ v.d.room = v.d.room) := fun z A hA =>
    ⟨h.mono fun u hu => List.mem_append.2 (.inl (hA u hu)), hc.le (Nat.le_succ _) (Nat.le_add_right _ _), rfl⟩
  have hwv := hc.wt
  unfold Lo.stepA
  by_cases k3 : d.k = 3
  · have e : v.stepL d = v.hard d.ht d.hv := by unfold Lo.stepL; rw [if_pos k3]
    rw [e, if_pos (.inl k3)]
    rcases hard_to h htt d.ht d.hv with ⟨h1, -⟩ | ⟨h1, -⟩ | ⟨-, -, h3⟩
    · rw [h1]; exact hsame 0 all fun u hu => hu
    · rw [h1]; exact hsame 0 all fun u hu => hu
    refine ⟨h3.good.mono fun u hu => ?_, h3.cap hc (by decide) (by show wt22 v.s.v.l ≤ _; omega), h3.room⟩
    rcases hu with hu | hu
    · exact List.mem_append.2 (.inl hu)
    rw [hu, ← h3.view]; exact List.mem_append.2 (.inr (List.mem_singleton.2 rfl))
  by_cases k4 : d.k = 4
  · have e : v.stepL d = v.cut d.n := by unfold Lo.stepL; rw [if_neg k3, if_pos k4]
    rw [e, if_pos (.inr k4)]
    rcases cut_to h htt (Sound.last_lt h.gd.1 hc.wt (by omega)) d.n with ⟨h1, -⟩ | ⟨h1, -⟩ | ⟨-, -, h3⟩
    · rw [h1]; exact hsame 0 all fun u hu => hu
    · rw [h1]; exact hsame 0 all fun u hu => hu
    refine ⟨h3.good.mono fun u hu => ?_, h3.cap hc (by decide) (by have := wt22_take v.s.v.l (d.n - v.s.v.i - 1).toNat; show wt22 (v.s.v.l.take (d.n - v.s.v.i - 1).toNat) ≤ _; omega), h3.room⟩
    rcases hu with hu | hu
    · exact List.mem_append.2 (.inl hu)
    rw [hu, ← h3.view]; exact List.mem_append.2 (.inr (List.mem_singleton.2 rfl))
  rw [if_neg (by rintro (e | e); exact k3 e; exact k4 e)]
  by_cases k5 : d.k = 5
  · have e : v.stepL d = v.rebase d.n d.t := by unfold Lo.stepL; rw [if_neg k3, if_neg k4, if_pos k5]
    rw [e, if_pos (.inl k5)]
    rcases rebase_to h htt d.n d.t with ⟨h1, -⟩ | ⟨h1, -⟩ | ⟨h0, h2, h3⟩
    · rw [h1, if_neg (by simp)]; exact hsame 0 all fun u hu => hu
    · rw [h1, if_neg (by simp)]; exact hsame 0 all fun u hu => hu
    rw [if_pos h2]
    have hwr : wt22 (v.s.v.rebased d.n d.t).l ≤ wt22 v.s.v.l := by
      show wt22 (if v.s.v.at_ d.n = d.t ∧ d.n ≤ v.s.v.last then v.s.v.l.drop (d.n - v.s.v.i).toNat else []) ≤ _
      split
      · exact wt22_drop _ _
      exact Nat.zero_le _
    have hws : (v.s.v.rebased d.n d.t).whole.length ≤ wt22 (v.s.v.rebased d.n d.t).l + 123 := by
      refine whole_22 (Sound.rebased h.gd.1 (by omega) ?_ ?_)
      · cases e1 : withinS d.n 0 with
        | true => rfl
        | false => exact absurd (.inr (.inl e1)) h0
      cases e1 : withinS d.t 0 with
      | true => rfl
      | false => exact absurd (.inr (.inr e1)) h0
    refine ⟨h3.good.mono fun u hu => ?_, h3.cap hc (by omega) (by omega), h3.room⟩
    rw [hu, ← h3.view]; exact List.mem_append.2 (.inr (List.mem_singleton.2 rfl))
  by_cases k6 : d.k = 6 ∨ d.k = 7 ∨ d.k = 8
  · have e : v.stepL d = v.sync := by unfold Lo.stepL; rw [if_neg k3, if_neg k4, if_neg k5, if_pos k6]
    rw [e, if_pos (.inr k6)]
    obtain ⟨h2, h3, -⟩ := sync_to h
    rw [if_pos h2]
    refine ⟨h3.good.mono fun u hu => ?_, h3.cap hc (by decide) (by omega), h3.room⟩
    rw [hu, ← h3.view]; exact List.mem_append.2 (.inr (List.mem_singleton.2 rfl))
  have e : v.stepL d = v.app d.l := by unfold Lo.stepL; rw [if_neg k3, if_neg k4, if_neg k5, if_neg k6]
  rw [e, if_neg (by rintro (e | e); exact k5 e; exact k6 e)]
  rcases app_to h htt d.l with ⟨h1, -⟩ | ⟨h0, h1⟩ | ⟨h1, -⟩ | ⟨n, -, h0, h2, h3⟩
  · rw [h1, if_neg (by simp)]; exact hsame 0 all fun u hu => hu
  · rw [h1, if_pos rfl]; exact hsame 0 _ fun u hu => List.mem_append.2 (.inl hu)
  · rw [h1, if_neg (by simp)]; exact hsame 0 all fun u hu => hu
  rw [if_pos h2]
  have hl := entsB_22 _ _ _ h0
  have hn := Wv.adds_eq _ _ _ h0
  refine ⟨h3.good.mono fun u hu => ?_, h3.cap hc (by omega) (by rw [hn]; show wt22 (v.s.v.l ++ d.l) ≤ _; rw [wt22_append]; omega), h3.room⟩
  rcases hu with hu | ⟨j, hj, hu⟩
  · exact List.mem_append.2 (.inl (List.mem_append.2 (.inl hu)))
  refine List.mem_append.2 (.inl (List.mem_append.2 (.inr ?_)))
  unfold midsTo
  exact List.mem_map.2 ⟨j, List.mem_range.2 hj, hu.symm⟩
theorem sumW22 (D : List DoW) : 10 * (D.map fun d => wt22 d.l).sum ≤ 11 * sumW D := by
  unfold sumW
  induction D with
  | nil => exact Nat.le_refl _
  | cons d D ih => rw [List.map_cons, List.sum_cons, List.map_cons, List.sum_cons]; have := wt22_20 d.l; omega
theorem sum22_take (D : List DoW) (k : Nat) (hk : k < D.length) : ((D.take (k + 1)).map fun d => wt22 d.l).sum = ((D.take k).map fun d => wt22 d.l).sum + wt22 D[k].l := by
  rw [List.take_succ_eq_append_getElem hk]
  simp only [List.map_append, List.sum_append, List.map_cons, List.map_nil, List.sum_cons, List.sum_nil, Nat.add_zero]
theorem play_good {v : Lo} {k m : Nat} (h : v.Good (inAll [v.s.v])) (hc : v.Cap k 0) (hf : v.Fit k m) (hk : k ≤ 1000) (hm : m ≤ 400000000) (D : List DoW) (h64 : ∀ d ∈ D, In64 d.t) (hD : D.length ≤ 60) (hW : sumW D ≤ 131072) :
    (playV v [v.s.v] D).1.Good (inAll (playV v [v.s.v] D).2) ∧ (playV v [v.s.v] D).1.Cap (k + 60) 149000 ∧ (playV v [v.s.v] D).1.d.room = v.d.room ∧ (playV v [v.s.v] D).1.Fit (k + 60) 400393216 := by
  have hfit := fun j hj => playV_fit hf [v.s.v] D h64 hD hW hk hm j hj
  have hs22 := sumW22 D
  have key : ∀ j, j ≤ D.length → (playV v [v.s.v] (D.take j)).1.Good (inAll (playV v [v.s.v] (D.take j)).2) ∧ (playV v [v.s.v] (D.take j)).1.Cap (k + j) ((D.take j).map fun d => wt22 d.l).sum ∧ (playV v [v.s.v] (D.take j)).1.d.room = v.d.room := by
    intro j
    induction j with
    | zero => intro _; exact ⟨h, hc, rfl⟩
    | succ j ih =>
      intro hj
      have hjl : j < D.length := by omega
      obtain ⟨i1, i2, i3⟩ := ih (by omega)
      have hft := hfit j (by omega)
      have e := sum22_take D j hjl
      have hle : ((D.take (j + 1)).map fun d => wt22 d.l).sum ≤ (D.map fun d => wt22 d.l).sum := by
        have e2 : (D.map fun d => wt22 d.l).sum = ((D.take (j + 1)).map fun d => wt22 d.l).sum + ((D.drop (j + 1)).map fun d => wt22 d.l).sum := by
          conv => lhs; rw [← List.take_append_drop (j + 1) D]
          rw [List.map_append, List.sum_append]
        omega
      rw [playV_take v [v.s.v] D j hjl, e]
      obtain ⟨a1, a2, a3⟩ := step_good i1 i2 (by have := hft.tt; omega) D[j] (by omega)
      exact ⟨a1, a2, a3.trans i3⟩
  obtain ⟨k1, k2, k3⟩ := key D.length (Nat.le_refl _)
  have k4 := hfit D.length (Nat.le_refl _)
  rw [List.take_length] at k1 k2 k3 k4
  exact ⟨k1, k2.le (by omega) (by omega), k3, k4.le (by omega) (by omega)⟩
/-! ### opening behind a crash -/
theorem dropsW_used (s : Wl) : ∀ (l : List Nat) (d : DS), d.Calm → (dropsW s l d).2.used = d.used ∧ (dropsW s l d).2.Calm := by
  intro l
  induction l with
  | nil => intro d h; exact ⟨rfl, h⟩
  | cons n r ih =>
    intro d h
    have h1 : (d.drop (fileW n)).2.used = d.used ∧ (d.drop (fileW n)).2.Calm := by
      unfold DS.drop
      split
      · exact ⟨rfl, h⟩
      rw [does_calmW h.2]
      refine ⟨?_, h⟩
      show tTot d.last + aTot (d.acts ++ [.drop (fileW n)]) = _
      rw [aTot_append]
      simp [aTot, ActS.data, DS.used]
    rw [dropsW_cons]
    split
    · split
      · exact h1
      obtain ⟨i1, i2⟩ := ih _ h1.2
      exact ⟨i1.trans h1.1, i2⟩
    exact ih d h
theorem openW_used {d : DS} (hok : d.Ok) (hc : d.Calm) {l : List Nat} : (openW d l).2.used ≤ d.used := by
  unfold openW endW
  generalize readS d l = s
  obtain ⟨h1, h2⟩ := dropsW_used s l d hc
  have h3 := dropsW_ok s l hok
  generalize dropsW s l d = r at *
  split
  · omega
  have h4 : (trimW s r.2).2.used = r.2.used ∧ (trimW s r.2).2.Calm := by
    unfold trimW
    split
    · unfold DS.trim
      split
      · exact ⟨rfl, h2⟩
      split
      · exact ⟨rfl, h2⟩
      rw [does_calmW h2.2]
      refine ⟨?_, h2⟩
      show tTot r.2.last + aTot (r.2.acts ++ [.trim (fileW s.tt) (s.sz : Int).toNat]) = _
      rw [aTot_append]
      simp [aTot, ActS.data, DS.used]
    exact ⟨rfl, h2⟩
  have h5 : (trimW s r.2).2.Ok := trimW_ok h3
  split
  · omega
  have := sync_used h5 h4.2
  omega
/-- A log behind a crash, opened. -/
structure Reopen (d : DS) (l : List Nat) (V : Wv → Prop) (u : Nat) (s : Wl) (d2 : DS) : Prop where
  opened : openW d l = (0, d2)
  read : readS d l = s
  view : V s.v
  good : (Lo.mk s d2).Good (fun u => u = s.v)
  acts : d2.acts = []
  last : d2.last = d2.seen
  room : d2.room = d.room
  used : d2.used ≤ u
theorem open_gr {d : DS} {s : Wl} (hok : d.Ok) (hc : d.Calm) (h : Gr d.seen s) {V : Wv → Prop} (hV : V s.v) {l : List Nat} (hs : d.Segs l) : ∃ d2, Reopen d l V d.used s d2 := by
  have hr := hok.run.1
  have hrd := read_gr h hc.1 rfl hr hs
  obtain ⟨T, e1, e2, e3⟩ := openW_calm hok hc hs
  have hk := openW_used hok hc (l := l)
  have hok2 : (openW d l).2.Ok := by
    have h1 := dropsW_ok (readS d l) l hok
    unfold openW endW
    generalize dropsW (readS d l) l d = r at *
    split
    · exact h1
    split
    · exact trimW_ok h1
    exact (trimW_ok h1).sync
  rw [hrd] at e3
  rw [e1] at hk hok2
  have hgd := h.open_ e3
  exact ⟨_, e1, hrd, hV, ⟨hok2, hc, hgd, CI.still (s := s) rfl hgd.gr rfl, rfl⟩, rfl, rfl, rfl, hk⟩
theorem crash_used {d : DS} (h : d.Ok) (keep tear : Int) : (d.fall keep tear).start.used ≤ d.used := by
  obtain ⟨h1, h2⟩ := fitsAll_lasts h.fits keep tear
  obtain ⟨h3, h4, h5⟩ := runAll_ok _ _ h1 h.rise h.len
  show tTot (runAll d.last (lastsS d.acts keep tear)) + aTot [] ≤ tTot d.last + aTot d.acts
  have : aTot [] = 0 := rfl
  omega
theorem DS.Ok.start2 {d : DS} (h : d.Ok) : d.start.Ok := ⟨h.rise, h.len, h.fits, h.seen, h.room0, h.room1, h.used, h.left0, h.left1, h.k64, h.t64, fun e => by cases e⟩
theorem new_good {room : Int} (h0 : 0 ≤ room) (h1 : room ≤ 16777216) : (lo0 room).Good (inAll [(lo0 room).s.v]) ∧ (lo0 room).Cap 0 0 := by
  have hgd : Gd (lo0 room).d.seen (lo0 room).s := ⟨Sound.zero, .inl ⟨rfl, fun n _ _ => rfl⟩⟩
  exact ⟨⟨DS.new_ok room h0 h1, ⟨rfl, rfl⟩, hgd, CI.still (s := (lo0 room).s) rfl hgd.gr (List.mem_singleton.2 rfl), List.mem_singleton.2 rfl⟩, Nat.zero_le _, Nat.le_refl _⟩
end Go.Proofs.YtikjckdoldiddaaGreatDoor

/- Plain: the law's example. -/
namespace Go.Proofs.YtikjckdoldiddaaGreatDoor
open Go.RowKit Go.Maps
set_option linter.unusedVariables false
set_option linter.unusedSimpArgs false

theorem DS.write_last {d : DS} (h : d.Calm) (n : Nm) (k : Int) (b : By) : (d.write n k b).2.last = d.last := by
  unfold DS.write
  repeat' split
  all_goals first
    | rfl
    | rw [does_calmW h.2]
theorem Lo.write_last {v : Lo} (h : v.d.Calm) (b : By) : (v.write b).2.d.last = v.d.last := by
  unfold Lo.write Lo.put
  repeat' split
  all_goals exact DS.write_last h _ _ _
theorem Lo.app_last {v : Lo} (h : v.d.Calm) (l : List Ent) : (v.app l).2.d.last = v.d.last := by
  unfold Lo.app
  cases v.s.v.adds l with
  | none => rfl
  | some n =>
    unfold Lo.appR
    dsimp only
    repeat' split
    · rfl
    · exact Lo.write_last h _
    exact Lo.write_last h _
theorem fall_none {d : DS} (tear : Int) : (d.fall 0 tear).start = ⟨false, 0, 0, 0, d.room, d.last, d.last, []⟩ := by
  have e : lastsS d.acts 0 tear = [] := by unfold lastsS; rw [if_pos (by omega)]
  unfold DS.fall DS.start
  rw [e]; rfl
def aw1 : List Ent := [⟨1, 1, [97]⟩, ⟨2, 1, []⟩]
def aw3 : List Ent := [⟨3, 1, []⟩]
def aw2 : List Ent := [⟨2, 2, []⟩]
def awA : Lo := ((lo0 1000).app aw1).2
def awB : Lo := (awA.cut 2).2
def awC : Lo := (awB.hard 2 1).2
def awD : Lo := awC.sync.2
def awE : Lo := (awD.app aw2).2
def awV : Wv := ⟨2, 1, 0, 0, [⟨1, 1, [97]⟩]⟩
theorem aw_all : ((lo0 1000).app aw1).1 = 0 ∧ (awA.cut 2).1 = 0 ∧ (awB.hard 2 1).1 = 0 ∧ awC.sync.1 = 0 ∧ awD.app aw3 = (51, awD) ∧
    awA.Fit 1 1000 ∧ awB.Fit 2 1000 ∧ awC.Fit 3 1000 ∧ awD.Fit 3 1000 ∧ awE.Fit 4 2000 ∧ awE.d.off = false ∧
    ∀ l, ((awE.d.fall 0 0).start).Segs l → ∃ s d2, openW ((awE.d.fall 0 0).start) l = (0, d2) ∧ readS ((awE.d.fall 0 0).start) l = s ∧ s.v = awV := by
  obtain ⟨g0, c0⟩ := new_good (room := 1000) (by decide) (by decide)
  have f0 := lo0_fit (room := 1000) (by decide) (by decide)
  have hw1 : wtE aw1 ≤ 500000000 := by decide
  have fA : awA.Fit 1 1000 := (Lo.app_fit f0 hw1).le (by decide) (by decide)
  have fB : awB.Fit 2 1000 := Lo.cut_fit fA 2
  have fC : awC.Fit 3 1000 := Lo.hard_fit fB 2 1
  have fD : awD.Fit 3 1000 := Lo.sync_fit fC
  have fE : awE.Fit 4 2000 := (Lo.app_fit fD (l := aw2) (by decide)).le (by decide) (by decide)
  have hadd : (lo0 1000).s.v.adds aw1 = some ⟨0, 0, 0, 0, aw1⟩ := by rfl
  have hfull : ∀ {v : Lo} {u n W : Nat}, v.d.room = 1000 → v.d.used ≤ u → v.d.seen.length ≤ n → n < 4096 → u + W ≤ 1000 → ¬ v.full W := fun h1 h2 h3 h4 h5 h => by
    rcases h with h | h
    · omega
    rw [h1] at h; omega
  have hl1 : (entsB aw1).length ≤ 60 := by have h8 := entsB_22 _ _ _ hadd; have e : wt22 aw1 = 45 := (by decide); omega
  obtain ⟨dA, rA⟩ : Done (lo0 1000) awA ⟨0, 0, 0, 0, aw1⟩ _ ((entsB aw1).length + 123) ∧ ((lo0 1000).app aw1).1 = 0 := by
    rcases app_to g0 (by decide) aw1 with ⟨-, h⟩ | ⟨h, -⟩ | ⟨-, h⟩ | ⟨n, -, h1, h2, h3⟩
    · rw [hadd] at h; cases h
    · cases h
    · exact absurd h (hfull (u := 0) (n := 0) rfl (Nat.le_refl _) (Nat.le_refl _) (by decide) (by omega))
    rw [hadd] at h1; cases h1
    exact ⟨h3, h2⟩
  have uA : awA.d.used ≤ 183 := by have := dA.used; have e : (lo0 1000).d.used = 0 := rfl; omega
  have nA : awA.d.seen.length ≤ 1 := dA.files
  have mA : awA.d.room = 1000 := dA.room
  obtain ⟨dB, rB⟩ : Done awA awB (awA.s.v.cutV 2) _ 164 ∧ (awA.cut 2).1 = 0 := by
    rcases cut_to dA.good (by have := fA.tt; omega) (by rw [dA.view]; decide) 2 with ⟨-, h⟩ | ⟨-, h⟩ | ⟨-, h2, h3⟩
    · rw [dA.view] at h; exact absurd h (by decide)
    · exact absurd h (hfull mA uA nA (by decide) (by decide))
    exact ⟨h3, h2⟩
  have uB : awB.d.used ≤ 347 := by have := dB.used; omega
  have nB : awB.d.seen.length ≤ 2 := by have := dB.files; omega
  have mB : awB.d.room = 1000 := dB.room.trans mA
  obtain ⟨dC, rC⟩ : Done awB awC { awB.s.v with ht := 2, hv := 1 } _ 164 ∧ (awB.hard 2 1).1 = 0 := by
    rcases hard_to dB.good (by have := fB.tt; omega) 2 1 with ⟨-, h⟩ | ⟨-, h⟩ | ⟨-, h2, h3⟩
    · exact absurd h (by decide)
    · exact absurd h (hfull mB uB nB (by decide) (by decide))
    exact ⟨h3, h2⟩
  obtain ⟨rD, dD, aD, lD, sD, tD⟩ := sync_to dC.good
  have vD : awD.s.v = awV := by
    have h1 : awD.s.v = awC.s.v := dD.view
    rw [h1, dC.view, dB.view, dA.view]
    rfl
  have hadd3 : awD.s.v.adds aw3 = none := by rw [vD]; rfl
  have rE : awD.app aw3 = (51, awD) := by
    show awD.appR aw3 (awD.s.v.adds aw3) = _
    rw [hadd3]; rfl
  have cE : awE.d.off = false := by
    show (awD.app aw2).2.d.off = false
    rcases app_to dD.good (by have := fD.tt; show awD.s.tt < _; omega) aw2 with ⟨h, -⟩ | ⟨-, h⟩ | ⟨h, -⟩ | ⟨n, -, -, -, h⟩
    · have h : awD.app aw2 = _ := h
      rw [h]; exact dD.good.calm.1
    · have h : awD.app aw2 = _ := h
      rw [h]; exact dD.good.calm.1
    · have h : awD.app aw2 = _ := h
      rw [h]; exact dD.good.calm.1
    exact h.good.calm.1
  refine ⟨rA, rB, rC, rD, rE, fA, fB, fC, fD, fE, cE, fun l hs => ?_⟩
  have hl : awE.d.last = awD.d.last := Lo.app_last dD.good.calm aw2
  have hgr : Gr ((awE.d.fall 0 0).start).seen awD.s := by
    rw [fall_none]
    show Gr awE.d.last awD.s
    rw [hl, show awD.d.last = awD.d.seen from lD]
    exact dD.good.gd.gr
  obtain ⟨d2, h3⟩ := open_gr ((fE.ok.fall 0 0).start2) ⟨rfl, rfl⟩ hgr (V := fun _ => True) trivial hs
  exact ⟨_, d2, h3.opened, h3.read, vD⟩
end Go.Proofs.YtikjckdoldiddaaGreatDoor
