/- The words of the ledger's proofs: bytes and entries as they lie in memory, and what keeps them. No program in it. -/
import Derived.WalkKit
import Derived.WalkSpells
import Derived.WalkLawsBesides
import Derived.Deep.QuietTactic
import Derived.BigQuiet
import Derived.Deep.Draws
import Derived.Laws.AppendOwnNone
import Derived.Lib.BufferRead
import Derived.Laws.IdiomStrings
import Derived.Deep.RegionHeld3
import Derived.Laws.ResultCell
import Derived.Maps.Ext
import Derived.Maps.OwnSet
import Derived.Maps.RangeWalk
import Derived.Test.YtikjckdoldiddaaGreatDoorProg
import Derived.Maps.AppendAt
namespace Go.Proofs.YtikjckdoldiddaaGreatDoor
open Go.RowKit
set_option linter.unusedVariables false
set_option linter.unusedSimpArgs false

theorem hid {p : Prop} (h : p) : Hid p := h

/-- An entry, as a reader sees it. -/
structure Ent where
  i : Int
  t : Int
  d : List UInt8

/-- A number of int's kind. -/
def In64 (x : Int) : Prop := -9223372036854775808 ≤ x ∧ x ≤ 9223372036854775807

/-- Bytes that lie in memory, in blocks of which F holds. -/
def ByF (F : Nat → Prop) (w : World) (a : Option Addr) (n c : Nat) (d : List UInt8) : Prop :=
  n = d.length ∧ n ≤ c ∧ (c ≤ maxLen ∧ n ≤ 140737488351232) ∧ (a = none → c = 0) ∧
  ∀ p, a = some p → (0 < c → p.spot = none) ∧ ∀ k, (h : k < d.length) → F p.block ∧ w.cell? ⟨p.block, p.off + k, none⟩ = some (.int .u8 (d[k].toNat : Int))

/-- One entry's three cells, at a block's place. -/
def EnF (F : Nat → Prop) (w : World) (b o : Nat) (e : Ent) : Prop :=
  In64 e.i ∧ In64 e.t ∧ w.cell? ⟨b, o, none⟩ = some (.int .i64 e.i) ∧ w.cell? ⟨b, o + 1, none⟩ = some (.int .i64 e.t) ∧
  ∃ a n c, w.cell? ⟨b, o + 2, none⟩ = some (.slice a n c) ∧ ByF F w a n c e.d

/-- Entries that lie in memory. -/
def EsF (F : Nat → Prop) (w : World) (a : Option Addr) (n c : Nat) (l : List Ent) : Prop :=
  n = l.length ∧ n ≤ c ∧ (c ≤ maxLen ∧ n * 40 ≤ 140737488351232) ∧ (a = none → c = 0) ∧
  ∀ p, a = some p → (0 < c → p.spot = none) ∧ ∀ k, (h : k < l.length) → F p.block ∧ EnF F w p.block (p.off + k * 3) l[k]

section
variable {F G : Nat → Prop} {w w' : World} {a : Option Addr} {n c : Nat} {d : List UInt8} {l : List Ent}
theorem ByF.keep (h : ByF F w a n c d) (hf : ∀ k, F k → k < w.heap.size → G k ∧ w'.heap[k]? = w.heap[k]?) : ByF G w' a n c d := by
  obtain ⟨h1, h2, h3, h4, h5⟩ := h
  refine ⟨h1, h2, h3, h4, fun p hp => ?_⟩
  obtain ⟨h6, h8⟩ := h5 p hp
  refine ⟨h6, fun k hk => ?_⟩
  obtain ⟨h7, h9⟩ := h8 k hk
  have hlt := World.block_lt_of_cell? w _ h9
  obtain ⟨hg, he⟩ := hf p.block h7 hlt
  exact ⟨hg, (World.cell?_of_block (w := w) (a := ⟨p.block, p.off + k, none⟩) he).trans h9⟩
theorem EnF.keep {b o : Nat} {e : Ent} (h : EnF F w b o e) (hb : w'.heap[b]? = w.heap[b]?) (hf : ∀ k, F k → k < w.heap.size → G k ∧ w'.heap[k]? = w.heap[k]?) : EnF G w' b o e := by
  obtain ⟨h1, h2, h3, h4, a, n, c, h5, h6⟩ := h
  exact ⟨h1, h2, (World.cell?_of_block (w := w) hb).trans h3, (World.cell?_of_block (w := w) hb).trans h4, a, n, c, (World.cell?_of_block (w := w) hb).trans h5, h6.keep hf⟩
theorem EnF.lt {b o : Nat} {e : Ent} (h : EnF F w b o e) : b < w.heap.size := World.block_lt_of_cell? w _ h.2.2.1
theorem EsF.keep (h : EsF F w a n c l) (hf : ∀ k, F k → k < w.heap.size → G k ∧ w'.heap[k]? = w.heap[k]?) : EsF G w' a n c l := by
  obtain ⟨h1, h2, h3, h4, h5⟩ := h
  refine ⟨h1, h2, h3, h4, fun p hp => ?_⟩
  obtain ⟨h6, h8⟩ := h5 p hp
  refine ⟨h6, fun k hk => ?_⟩
  obtain ⟨h7, h9⟩ := h8 k hk
  obtain ⟨hg, he⟩ := hf p.block h7 h9.lt
  exact ⟨hg, h9.keep he hf⟩
theorem ByF.below (h : ByF F w a n c d) (hb : Below w.heap.size w w') : ByF F w' a n c d := h.keep fun k hk hs => ⟨hk, hb.block k hs⟩
theorem EsF.below (h : EsF F w a n c l) (hb : Below w.heap.size w w') : EsF F w' a n c l := h.keep fun k hk hs => ⟨hk, hb.block k hs⟩
theorem ByF.only {g : Nat} (h : ByF F w a n c d) (hb : w.grownBy w' (some g)) (hg : ¬ F g) : ByF F w' a n c d :=
  h.keep fun k hk hs => ⟨hk, hb.block k hs (by intro e; injection e with e; subst e; exact hg hk)⟩
theorem EsF.only {g : Nat} (h : EsF F w a n c l) (hb : w.grownBy w' (some g)) (hg : ¬ F g) : EsF F w' a n c l :=
  h.keep fun k hk hs => ⟨hk, hb.block k hs (by intro e; injection e with e; subst e; exact hg hk)⟩
theorem ByF.more (h : ByF F w a n c d) (hg : ∀ k, F k → G k) : ByF G w a n c d := h.keep fun k hk _ => ⟨hg k hk, rfl⟩
theorem EsF.more (h : EsF F w a n c l) (hg : ∀ k, F k → G k) : EsF G w a n c l := h.keep fun k hk _ => ⟨hg k hk, rfl⟩
theorem ByF.lt (h : ByF F w a n c d) : ByF (fun b => F b ∧ b < w.heap.size) w a n c d := h.keep fun k hk hs => ⟨⟨hk, hs⟩, rfl⟩
theorem EsF.lt (h : EsF F w a n c l) : EsF (fun b => F b ∧ b < w.heap.size) w a n c l := h.keep fun k hk hs => ⟨⟨hk, hs⟩, rfl⟩
theorem EnF.only {b o : Nat} {e : Ent} {g : Nat} (h : EnF F w b o e) (hb : w.grownBy w' (some g)) (hne : b ≠ g) (hg : ¬ F g) : EnF F w' b o e :=
  h.keep (hb.block b h.lt (by intro e; injection e with e; exact hne e)) fun k hk hs => ⟨hk, hb.block k hs (by intro e; injection e with e; subst e; exact hg hk)⟩
theorem EnF.below {b o : Nat} {e : Ent} (h : EnF F w b o e) (hb : Below w.heap.size w w') : EnF F w' b o e := h.keep (hb.block b h.lt) fun k hk hs => ⟨hk, hb.block k hs⟩
theorem EnF.more {b o : Nat} {e : Ent} (h : EnF F w b o e) (hg : ∀ k, F k → G k) : EnF G w b o e := h.keep rfl fun k hk _ => ⟨hg k hk, rfl⟩
theorem ByF.nil_ (F : Nat → Prop) (w : World) : ByF F w none 0 0 [] := ⟨rfl, by simp, by simp, fun _ => rfl, fun p hp => by cases hp⟩
theorem EsF.nil_ (F : Nat → Prop) (w : World) : EsF F w none 0 0 [] := ⟨rfl, by simp, by simp, fun _ => rfl, fun p hp => by cases hp⟩
/-- Where there is one, there is an address. -/
theorem EsF.at_ (h : EsF F w a n c l) {k : Nat} (hk : k < n) : ∃ b o, a = some ⟨b, o, none⟩ ∧ F b ∧ b < w.heap.size ∧ ∃ hl : k < l.length, EnF F w b (o + k * 3) l[k] := by
  obtain ⟨rfl, h2, h3, h4, h5⟩ := h
  cases a with
  | none => have := h4 rfl; omega
  | some p =>
    obtain ⟨h6, h8⟩ := h5 p rfl
    obtain ⟨pb, po, ps⟩ := p
    have h6 : ps = none := h6 (by omega)
    subst h6
    have he := h8 k hk
    exact ⟨pb, po, rfl, he.1, he.2.lt, hk, he.2⟩
theorem ByF.at_ (h : ByF F w a n c d) {k : Nat} (hk : k < n) : ∃ b o, a = some ⟨b, o, none⟩ ∧ F b ∧ b < w.heap.size ∧ ∃ hl : k < d.length, w.cell? ⟨b, o + k, none⟩ = some (.int .u8 (d[k].toNat : Int)) := by
  obtain ⟨rfl, h2, h3, h4, h5⟩ := h
  cases a with
  | none => have := h4 rfl; omega
  | some p =>
    obtain ⟨h6, h8⟩ := h5 p rfl
    obtain ⟨pb, po, ps⟩ := p
    have h6 : ps = none := h6 (by omega)
    subst h6
    have he := h8 k hk
    exact ⟨pb, po, rfl, he.1, World.block_lt_of_cell? w _ he.2, hk, he.2⟩
end

/-- All old blocks are as they were. -/
abbrev Ext (w w' : World) : Prop := Below w.heap.size w w'
theorem Ext.trans' {a b c : World} (h : Ext a b) (k : Ext b c) : Ext a c := h.trans (k.mono h.size)
theorem below_drewN {B : Nat} {a w : World} (h : Below B a w) (n : Nat) : Below B a (w.drewN n) := ⟨h.os, h.tape, h.output, h.size, h.block⟩
theorem grown_below {a w : World} (h : Ext a w) (row : Option Nat) : a.grownBy w row := ⟨h.os, h.tape, h.output, h.size, fun i hi _ => h.block i hi⟩

/-- A row of cells that lies at an address. -/
def RowAt (w : World) (a : Option Addr) (n size : Nat) (xs : List Value) : Prop :=
  xs.length = n * size ∧ (a = none → n = 0) ∧ ∀ p, a = some p → ∀ j u, xs[j]? = some u → w.cell? (p.add j) = some u

theorem RowAt.ext {w w' : World} {a : Option Addr} {n size : Nat} {xs : List Value} (h : RowAt w a n size xs) (hb : Ext w w') : RowAt w' a n size xs :=
  ⟨h.1, h.2.1, fun p hp j u hu => by
    have h1 := h.2.2 p hp j u hu
    exact (hb.cell (World.block_lt_of_cell? w _ h1)).trans h1⟩
theorem ext_alloc (w : World) (o : Obj) : Ext w (w.alloc o) := (Below.refl _ _).alloc (Nat.le_refl _) o

/-- What append is asked for: a source that may be nil. -/
theorem wpList_append_row {P : Program} {w : World} {ops : Array Oper} {rest : List Oper} {o : Oper} {a : Act} {Q : Exit → Act → World → Prop} (hgd : o.guard = none) (s x : Operand) (t : TypeId)
    (ho : o.op = .call { callee := .builtin .append, args := #[s, x], argTypes := #[t, t] })
    (base : Nat) (e : TypeId) (z : Value) (size bytes : Nat) (ht : P.underlying t = some (.slice e)) (hi : (P.info? e).map (fun i => (i.zero, i.size, i.bytes)) = some (some z, size, bytes))
    (hzs : z.cells.size = size) (hsz : 0 < size)
    (v : Value) (n : Nat) (xs : List Value) (hs : a.eval s = v) (hown : w.ownsRow base e size v n xs)
    (A : Option Addr) (m c : Nat) (news : List Value) (hx : a.eval x = .slice A m c) (hc : A = none → c = 0) (hr : RowAt w A m size news) (h1 : ∀ u ∈ news, u.oneCell' = true)
    (h63 : n + m ≤ maxLen) (hbytes : (n + m) * bytes ≤ 140737488355328) (hbase : base ≤ w.heap.size)
    (h : ∀ v' w', w'.ownsRow base e size v' (n + m) (xs ++ news) → w.grownBy w' v.ownBlock → wpList P ops Q rest (a.put o.dst v') w') : wpList P ops Q (o :: rest) a w := by
  obtain ⟨i, hi, hz, hz1, hz2⟩ := info_parts hi
  cases A with
  | none =>
    have hm := hr.2.1 rfl
    have hc := hc rfl
    subst hm; subst hc
    have hn : news = [] := List.eq_nil_of_length_eq_zero (by simpa using hr.1)
    subst hn
    exact wpList_append_own_none hgd s x t ho base e i size ht hi v n xs hs hown hx (h v w (by simpa using hown) (World.grownBy.refl w _))
  | some ad =>
    exact wpList_append_own w hgd s x t ho base e i z size bytes ht hi hz hz1 hz2 hzs hsz v n xs hs hown ad m c news hx hr.1 (hr.2.2 ad rfl) h1 h63 hbytes hbase
      (fun v' w' h2 h3 _ => h v' w' h2 h3)

/-- An entry's three cells. -/
structure EH where
  i : Int
  t : Int
  a : Option Addr
  n : Nat
  c : Nat
def EH.cells (h : EH) : List Value := [.int .i64 h.i, .int .i64 h.t, .slice h.a h.n h.c]
def rawH (H : List EH) : List Value := H.flatMap EH.cells
theorem rawH_length (H : List EH) : (rawH H).length = H.length * 3 := by
  induction H with
  | nil => rfl
  | cons h t ih => show (h.cells ++ rawH t).length = _; rw [List.length_append, ih, List.length_cons]; show 3 + _ = _; omega
theorem rawH_get (H : List EH) : ∀ (k j : Nat), j < 3 → (rawH H)[k * 3 + j]? = (H[k]?).bind fun h => h.cells[j]? := by
  induction H with
  | nil => intro k j _; rfl
  | cons h t ih =>
    intro k j hj
    show (h.cells ++ rawH t)[k * 3 + j]? = _
    cases k with
    | zero =>
      rw [List.getElem?_append_left (by show _ < 3; omega)]
      simp
    | succ k =>
      rw [List.getElem?_append_right (by show 3 ≤ _; omega)]
      have e : (k + 1) * 3 + j - h.cells.length = k * 3 + j := by show (k + 1) * 3 + j - 3 = _; omega
      rw [e, ih k j hj]
      rfl
theorem rawH_mem (H : List EH) : ∀ u ∈ rawH H, u.oneCell' = true := by
  intro u hu
  obtain ⟨h, _, hm⟩ := List.mem_flatMap.1 hu
  simp only [EH.cells, List.mem_cons, List.not_mem_nil, or_false] at hm
  rcases hm with rfl | rfl | rfl <;> rfl

theorem add_lit (b o k : Nat) : (⟨b, o, none⟩ : Addr).add k = ⟨b, o + k, none⟩ := by
  unfold Addr.add; split <;> simp_all

/-- Entries as rows of cells. -/
theorem EsF.raw {F : Nat → Prop} {w : World} {a : Option Addr} {n c : Nat} {l : List Ent} (h : EsF F w a n c l) :
    ∃ H : List EH, H.length = l.length ∧ RowAt w a n 3 (rawH H) ∧ ∀ k (h1 : k < H.length) (h2 : k < l.length), H[k].i = l[k].i ∧ H[k].t = l[k].t ∧ ByF F w H[k].a H[k].n H[k].c l[k].d := by
  obtain ⟨rfl, h2, h3, h4, h5⟩ := h
  cases a with
  | none =>
    have hl : l = [] := List.eq_nil_of_length_eq_zero (by have := h4 rfl; omega)
    subst hl
    exact ⟨[], rfl, ⟨rfl, fun _ => rfl, fun p hp => by cases hp⟩, fun k h1 => by simp at h1⟩
  | some p =>
    by_cases hz : l.length = 0
    · have hl : l = [] := List.eq_nil_of_length_eq_zero hz
      subst hl
      exact ⟨[], rfl, ⟨rfl, fun _ => rfl, fun p hp j u hu => by cases hu⟩, fun k h1 => by simp at h1⟩
    obtain ⟨h6, h8⟩ := h5 p rfl
    obtain ⟨b, o, s⟩ := p
    have h6 : s = none := h6 (by omega)
    subst h6
    have hx : ∀ k : Fin l.length, ∃ x : EH, w.cell? ⟨b, o + k.1 * 3, none⟩ = some (.int .i64 x.i) ∧ w.cell? ⟨b, o + k.1 * 3 + 1, none⟩ = some (.int .i64 x.t) ∧ w.cell? ⟨b, o + k.1 * 3 + 2, none⟩ = some (.slice x.a x.n x.c) ∧
        x.i = l[k].i ∧ x.t = l[k].t ∧ ByF F w x.a x.n x.c l[k].d := by
      intro k
      obtain ⟨_, _, _, e1, e2, a', n', c', e3, e4⟩ := h8 k.1 k.2
      exact ⟨⟨l[k].i, l[k].t, a', n', c'⟩, e1, e2, e3, rfl, rfl, e4⟩
    refine ⟨List.ofFn fun k => Classical.choose (hx k), by simp, ⟨by rw [rawH_length]; simp, fun hn => (by cases hn), ?_⟩, ?_⟩
    · rintro p hp j u hu
      cases hp
      rw [add_lit]
      have hj : j = j / 3 * 3 + j % 3 := by omega
      have hm : j % 3 < 3 := by omega
      rw [hj, rawH_get _ _ _ hm] at hu
      generalize j % 3 = m at *
      generalize j / 3 = q at *
      subst hj
      rw [List.getElem?_ofFn] at hu
      split at hu
      · rename_i hq
        have hc := Classical.choose_spec (hx ⟨q, hq⟩)
        simp only [Option.bind_some] at hu
        generalize Classical.choose (hx ⟨q, hq⟩) = x at *
        match m, hm with
        | 0, _ => simp [EH.cells] at hu; subst hu; exact hc.1
        | 1, _ => simp [EH.cells] at hu; subst hu; exact hc.2.1
        | 2, _ => simp [EH.cells] at hu; subst hu; exact hc.2.2.1
      cases hu
    intro k h1 h2
    rw [List.getElem_ofFn]
    exact (Classical.choose_spec (hx ⟨k, h2⟩)).2.2.2

def u8s (d : List UInt8) : List Value := d.map fun x => .int .u8 (x.toNat : Int)
theorem u8s_mem (d : List UInt8) : ∀ u ∈ u8s d, u.oneCell' = true := by
  intro u hu
  obtain ⟨x, _, rfl⟩ := List.mem_map.1 hu
  rfl
theorem ByF.raw {F : Nat → Prop} {w : World} {a : Option Addr} {n c : Nat} {d : List UInt8} (h : ByF F w a n c d) : RowAt w a n 1 (u8s d) := by
  obtain ⟨rfl, h2, h3, h4, h5⟩ := h
  refine ⟨by simp [u8s], fun e => by have := h4 e; omega, fun p hp j u hu => ?_⟩
  obtain ⟨h6, h8⟩ := h5 p hp
  obtain ⟨b, o, s⟩ := p
  simp only [u8s, List.getElem?_map, Option.map_eq_some_iff] at hu
  obtain ⟨x, hx, rfl⟩ := hu
  obtain ⟨hj, rfl⟩ := List.getElem?_eq_some_iff.1 hx
  have h6 : s = none := h6 (by omega)
  subst h6
  rw [add_lit]
  exact (h8 j hj).2

/-- Bytes of the call's own. -/
theorem own_bytes {w : World} {B : Nat} {v : Value} {d : List UInt8} {e : TypeId} (h : w.ownsRow B e 1 v d.length (u8s d)) (hd : d.length ≤ 140737488351232) :
    ∃ a c, v = .slice a d.length c ∧ ByF (fun b => B ≤ b) w a d.length c d ∧ ∀ p, a = some p → p.block < w.heap.size ∧ ∀ j, w.frozen? ⟨p.block, j, none⟩ = false := by
  rcases h.2 with ⟨rfl, h0⟩ | ⟨g, cap, cur, rfl, hb, hg, hn, hm, hs, ht⟩
  · refine ⟨none, 0, by rw [h0], ⟨rfl, by omega, ⟨by simp [maxLen], hd⟩, fun _ => rfl, fun p hp => by cases hp⟩, fun p hp => by cases hp⟩
  refine ⟨_, _, rfl, ⟨rfl, hn, ⟨hm, hd⟩, (fun e => by cases e), fun p hp => ?_⟩, fun p hp => ?_⟩
  · cases hp
    refine ⟨fun _ => rfl, fun k hk => ⟨hb, ?_⟩⟩
    rw [Nat.zero_add]
    have h1 := h.cellAt k (by omega)
    rw [h1]
    simp only [u8s, List.getElem?_map, List.getElem?_eq_getElem hk]
    rfl
  cases hp
  exact ⟨by have := (Array.getElem?_eq_some_iff.1 hg).1; exact this, fun j => h.frozenAt j⟩

/-- Entries of the call's own: the row in block g, each entry's bytes in blocks behind it; nothing of it is frozen. -/
structure OwnAt (w : World) (g cap : Nat) (ent : TypeId) (l : List Ent) : Prop where
  row : ∃ cur, w.heap[g]? = some (.cells cur ent (0, 0)) ∧ cur.size = cap * 3
  len : l.length ≤ cap
  cap : cap ≤ maxLen
  most : l.length * 40 ≤ 140737488351232
  each : ∀ k, (h : k < l.length) → EnF (fun b => g < b) w g (k * 3) l[k]
  soft : ∀ k, k < l.length → ∀ p n c, w.cell? ⟨g, k * 3 + 2, none⟩ = some (.slice (some p) n c) → p.block < w.heap.size ∧ ∀ j, w.frozen? ⟨p.block, j, none⟩ = false
def OwnE (ent : TypeId) (B : Nat) (w : World) (v : Value) (l : List Ent) : Prop :=
  (v = .slice none 0 0 ∧ l = []) ∨ ∃ g cap, v = .slice (some ⟨g, 0, none⟩) l.length cap ∧ B ≤ g ∧ OwnAt w g cap ent l
theorem OwnE.es {ent : TypeId} {B : Nat} {w : World} {v : Value} {l : List Ent} (h : OwnE ent B w v l) : ∃ a c, v = .slice a l.length c ∧ EsF (fun b => B ≤ b) w a l.length c l := by
  rcases h with ⟨rfl, rfl⟩ | ⟨g, cap, rfl, hb, h⟩
  · exact ⟨none, 0, rfl, EsF.nil_ _ _⟩
  refine ⟨_, _, rfl, rfl, h.len, ⟨h.cap, h.most⟩, (fun e => by cases e), fun p hp => ?_⟩
  cases hp
  refine ⟨fun _ => rfl, fun k hk => ⟨hb, ?_⟩⟩
  rw [Nat.zero_add]
  exact (h.each k hk).more fun b hb' => by omega

/-- In the midst of own: k entries have bytes of their own. -/
structure MixAt (F : Nat → Prop) (w : World) (g cap : Nat) (ent : TypeId) (l : List Ent) (k : Nat) : Prop where
  row : ∃ cur, w.heap[g]? = some (.cells cur ent (0, 0)) ∧ cur.size = cap * 3
  len : l.length ≤ cap
  cap : cap ≤ maxLen
  most : l.length * 40 ≤ 140737488351232
  old : ∀ j, (h : j < l.length) → k ≤ j → EnF F w g (j * 3) l[j]
  each : ∀ j, (h : j < l.length) → j < k → EnF (fun b => g < b) w g (j * 3) l[j]
  soft : ∀ j, j < l.length → j < k → ∀ p n c, w.cell? ⟨g, j * 3 + 2, none⟩ = some (.slice (some p) n c) → p.block < w.heap.size ∧ ∀ i, w.frozen? ⟨p.block, i, none⟩ = false
theorem MixAt.own {F : Nat → Prop} {w : World} {g cap : Nat} {ent : TypeId} {l : List Ent} (h : MixAt F w g cap ent l l.length) : OwnAt w g cap ent l :=
  ⟨h.row, h.len, h.cap, h.most, fun k hk => h.each k hk hk, fun k hk => h.soft k hk hk⟩
theorem EnF.setCell {G : Nat → Prop} {w : World} {g o j : Nat} {e : Ent} (h : EnF G w g o e) (hg : ¬ G g) (hj : j < o ∨ o + 3 ≤ j) (u : Value) : EnF G (w.setCell ⟨g, j, none⟩ u) g o e := by
  obtain ⟨h1, h2, h3, h4, a, n, c, h5, h6⟩ := h
  have ho : ∀ i, i < 3 → (w.setCell ⟨g, j, none⟩ u).cell? ⟨g, o + i, none⟩ = w.cell? ⟨g, o + i, none⟩ := fun i hi =>
    World.cell?_setCell_other w _ _ u (by intro e; simp only [Addr.mk.injEq, true_and, and_true] at e; omega)
  exact ⟨h1, h2, (ho 0 (by omega)).trans h3, (ho 1 (by omega)).trans h4, a, n, c, (ho 2 (by omega)).trans h5,
    h6.keep fun k hk _ => ⟨hk, heap_setCell_other w _ k u (by rintro rfl; exact hg hk)⟩⟩
theorem MixAt.step {F : Nat → Prop} {w w2 : World} {g cap : Nat} {ent : TypeId} {l : List Ent} {k : Nat} (h : MixAt F w g cap ent l k) (hk : k < l.length) (hF : ∀ b, F b → b < g) (hb : Ext w w2)
    {a : Option Addr} {c : Nat} (hd : ByF (fun b => w.heap.size ≤ b) w2 a l[k].d.length c l[k].d) (hs : ∀ p, a = some p → p.block < w2.heap.size ∧ ∀ j, w2.frozen? ⟨p.block, j, none⟩ = false) :
    MixAt F (w2.setCell ⟨g, k * 3 + 2, none⟩ (.slice a l[k].d.length c)) g cap ent l (k + 1) := by
  obtain ⟨cur, hc, hcs⟩ := h.row
  have hgl : g < w.heap.size := by have := (h.old k hk (Nat.le_refl _)).lt; exact this
  have hc2 : w2.heap[g]? = some (.cells cur ent (0, 0)) := (hb.block g hgl).trans hc
  refine ⟨⟨_, heap_setCell_same w2 g _ cur ent _ hc2, by simpa using hcs⟩, h.len, h.cap, h.most, fun j hj hkj => ?_, fun j hj hkj => ?_, fun j hj hkj p n' c' hp => ?_⟩
  · exact ((h.old j hj (by omega)).below hb).setCell (fun hg => Nat.lt_irrefl _ (hF g hg)) (by omega) _
  · by_cases he : j = k
    · subst he
      obtain ⟨h1, h2, h3, h4, a0, n0, c0, h5, h6⟩ := (h.old j hj (Nat.le_refl _)).below hb
      have hne : ∀ i, i < 2 → (w2.setCell ⟨g, j * 3 + 2, none⟩ (.slice a l[j].d.length c)).cell? ⟨g, j * 3 + i, none⟩ = w2.cell? ⟨g, j * 3 + i, none⟩ := fun i hi =>
        World.cell?_setCell_other w2 _ _ _ (by intro e; simp only [Addr.mk.injEq, true_and, and_true] at e; omega)
      refine ⟨h1, h2, (hne 0 (by omega)).trans h3, (hne 1 (by omega)).trans h4, a, _, c, World.cell?_setCell_same w2 _ _ h5, ?_⟩
      exact hd.keep fun q hq _ => ⟨by omega, heap_setCell_other w2 _ q _ (by show q ≠ g; omega)⟩
    exact ((h.each j hj (by omega)).below hb).setCell (by omega) (by omega) _
  simp only [World.frozen?_setCell]
  have hz : (w2.setCell ⟨g, k * 3 + 2, none⟩ (.slice a l[k].d.length c)).heap.size = w2.heap.size := by simp [World.setCell]
  rw [hz]
  by_cases he : j = k
  · subst he
    obtain ⟨h1, h2, h3, h4, a0, n0, c0, h5, h6⟩ := (h.old j hj (Nat.le_refl _)).below hb
    rw [World.cell?_setCell_same w2 _ _ h5] at hp
    simp only [Option.some.injEq, Value.slice.injEq] at hp
    exact hs p hp.1
  rw [World.cell?_setCell_other w2 _ _ _ (by intro e; simp only [Addr.mk.injEq, true_and, and_true] at e; omega)] at hp
  obtain ⟨-, -, h3, -, a0, n0, c0, h5, h6⟩ := h.each j hj (by omega)
  have h5' := (hb.cell (p := ⟨g, j * 3 + 2, none⟩) hgl).trans h5
  rw [h5'] at hp
  simp only [Option.some.injEq, Value.slice.injEq] at hp
  obtain ⟨rfl, rfl, rfl⟩ := hp
  obtain ⟨hp, hz⟩ := h.soft j hj (by omega) p n0 c0 h5
  exact ⟨Nat.lt_of_lt_of_le hp hb.size, fun i => (hb.frozen (p := ⟨p.block, i, none⟩) hp).trans (hz i)⟩

/-- Behind the clone of a row. -/
theorem MixAt.start {F : Nat → Prop} {w w1 : World} {H : List EH} {l : List Ent} {v : Value} {ent : TypeId} (hn : H.length = l.length) (h40 : l.length * 40 ≤ 140737488351232) (hb : Ext w w1)
    (hown : w1.ownsRow w.heap.size ent 3 v H.length (rawH H)) (hH : ∀ k (h1 : k < H.length) (h2 : k < l.length), H[k].i = l[k].i ∧ H[k].t = l[k].t ∧ ByF F w H[k].a H[k].n H[k].c l[k].d)
    (h64 : ∀ k, (h : k < l.length) → In64 l[k].i ∧ In64 l[k].t) :
    ∃ A cap, v = .slice A l.length cap ∧ (A = none → l = [] ∧ cap = 0) ∧ ∀ p, A = some p → p.off = 0 ∧ p.spot = none ∧ w.heap.size ≤ p.block ∧ MixAt (fun b => b < w.heap.size) w1 p.block cap ent l 0 := by
  rcases hown.2 with ⟨rfl, h0⟩ | ⟨g, cap, cur, rfl, hg, hc, hnc, hm, hs, ht⟩
  · exact ⟨none, 0, by rw [← hn, h0], fun _ => ⟨List.eq_nil_of_length_eq_zero (by omega), rfl⟩, fun p hp => by cases hp⟩
  refine ⟨_, _, by rw [← hn], (fun e => by cases e), fun p hp => ?_⟩
  cases hp
  refine ⟨rfl, rfl, hg, ⟨⟨cur, hc, hs⟩, by omega, hm, h40, fun j hj _ => ?_, fun j _ hj => absurd hj (by omega), fun j _ hj => absurd hj (by omega)⟩⟩
  obtain ⟨hi, ht, hd⟩ := hH j (by omega) hj
  have hcell : ∀ i, i < 3 → w1.cell? ⟨g, j * 3 + i, none⟩ = (H[j]'(by omega)).cells[i]? := fun i hi => by
    rw [hown.cellAt (j * 3 + i) (by omega), rawH_get _ _ _ hi, List.getElem?_eq_getElem (by omega)]; rfl
  refine ⟨(h64 j hj).1, (h64 j hj).2, (hcell 0 (by omega)).trans (by simp [EH.cells, hi]), (hcell 1 (by omega)).trans (by simp [EH.cells, ht]), _, _, _, (hcell 2 (by omega)).trans (by simp [EH.cells]; exact ⟨rfl, rfl, rfl⟩), ?_⟩
  exact hd.keep fun b _ hlt => ⟨hlt, hb.block b hlt⟩
end Go.Proofs.YtikjckdoldiddaaGreatDoor

/- Rules of the walk for max and min of two numbers: none of them parts the walk. -/
namespace Go.Proofs.YtikjckdoldiddaaGreatDoor
open Go.RowKit

theorem bmax2 (k k' : IntKind) (x y : Int) : Builtin.max2 (.int k x) (.int k' y) = pure (.int k (max x y)) := by
  simp only [Builtin.max2]
  congr 2
  omega
theorem bmin2 (k k' : IntKind) (x y : Int) : Builtin.min2 (.int k x) (.int k' y) = pure (.int k (min x y)) := by
  simp only [Builtin.min2]
  congr 2
  omega
theorem bmax_two (ats : Array TypeId) (ty : TypeId) (a b : Value) : Builtin.max_ ats ty #[a, b] = (Builtin.max2 a b >>= fun s => pure s) := by
  simp only [Builtin.max_, List.foldlM_cons, List.foldlM_nil]
theorem bmin_two (ats : Array TypeId) (ty : TypeId) (a b : Value) : Builtin.min_ ats ty #[a, b] = (Builtin.min2 a b >>= fun s => pure s) := by
  simp only [Builtin.min_, List.foldlM_cons, List.foldlM_nil]
end Go.Proofs.YtikjckdoldiddaaGreatDoor

/- Ints that lie in memory. -/
namespace Go.Proofs.YtikjckdoldiddaaGreatDoor
open Go.RowKit Go.Maps
set_option linter.unusedVariables false
set_option linter.unusedSimpArgs false

/-- Ints that lie in memory. -/
def IsF (F : Nat → Prop) (w : World) (a : Option Addr) (n c : Nat) (l : List Int) : Prop :=
  n = l.length ∧ n ≤ c ∧ (c ≤ maxLen ∧ n * 8 ≤ 140737488351232) ∧ (a = none → c = 0) ∧ (∀ x ∈ l, In64 x) ∧
  ∀ p, a = some p → (0 < c → p.spot = none) ∧ ∀ k, (h : k < l.length) → F p.block ∧ w.cell? ⟨p.block, p.off + k, none⟩ = some (.int .i64 l[k])
theorem IsF.keep {F G : Nat → Prop} {w w' : World} {a : Option Addr} {n c : Nat} {l : List Int} (h : IsF F w a n c l) (hf : ∀ k, F k → k < w.heap.size → G k ∧ w'.heap[k]? = w.heap[k]?) : IsF G w' a n c l := by
  obtain ⟨h1, h2, h3, h4, h45, h5⟩ := h
  refine ⟨h1, h2, h3, h4, h45, fun p hp => ⟨(h5 p hp).1, fun k hk => ?_⟩⟩
  obtain ⟨h7, h9⟩ := (h5 p hp).2 k hk
  obtain ⟨hg, he⟩ := hf p.block h7 (World.block_lt_of_cell? w ⟨p.block, p.off + k, none⟩ h9)
  exact ⟨hg, (World.cell?_of_block (w := w) (a := ⟨p.block, p.off + k, none⟩) he).trans h9⟩
theorem IsF.below {F : Nat → Prop} {w w' : World} {a : Option Addr} {n c : Nat} {l : List Int} (h : IsF F w a n c l) (hx : Ext w w') : IsF F w' a n c l := h.keep fun k hk hl => ⟨hk, hx.block k hl⟩
theorem IsF.more {F G : Nat → Prop} {w : World} {a : Option Addr} {n c : Nat} {l : List Int} (h : IsF F w a n c l) (hg : ∀ k, F k → G k) : IsF G w a n c l := h.keep fun k hk _ => ⟨hg k hk, rfl⟩
theorem IsF.nil_ (F : Nat → Prop) (w : World) : IsF F w none 0 0 [] := ⟨rfl, by simp, by simp, fun _ => rfl, by simp, fun p hp => by cases hp⟩
theorem IsF.at_ {F : Nat → Prop} {w : World} {a : Option Addr} {n c : Nat} {l : List Int} (h : IsF F w a n c l) {k : Nat} (hk : k < n) :
    ∃ b o, a = some ⟨b, o, none⟩ ∧ b < w.heap.size ∧ ∃ hl : k < l.length, w.cell? ⟨b, o + k, none⟩ = some (.int .i64 l[k]) ∧ In64 l[k] := by
  obtain ⟨rfl, h2, h3, h4, h45, h5⟩ := h
  cases a with
  | none => have := h4 rfl; omega
  | some p =>
    obtain ⟨b, o, s⟩ := p
    have hs : s = none := (h5 _ rfl).1 (by omega)
    subst hs
    obtain ⟨h6, h7⟩ := (h5 _ rfl).2 k hk
    exact ⟨b, o, rfl, World.block_lt_of_cell? w _ h7, hk, h7, h45 _ (List.getElem_mem _)⟩
theorem isF_block {w : World} {b : Nat} {S : List Int} {cur : Array Value} {t : TypeId} {z : Nat × Nat} (h : w.heap[b]? = some (.cells cur t z)) (hS : cur.toList = S.map (Value.int .i64)) (hin : ∀ x ∈ S, In64 x) (hl : S.length ≤ 1000000000000) : IsF (fun q => q = b) w (some ⟨b, 0, none⟩) S.length S.length S := by
  refine ⟨rfl, Nat.le_refl _, ⟨by unfold maxLen; omega, by omega⟩, (fun e => by cases e), hin, fun p hp => ?_⟩
  cases hp
  refine ⟨fun _ => rfl, fun k hk => ⟨rfl, ?_⟩⟩
  unfold World.cell?
  simp only [h, Nat.zero_add]
  have e := congrArg (fun l => l[k]?) hS
  simp only [List.getElem?_map, List.getElem?_eq_getElem hk, Option.map_some] at e
  rw [← e]
  simp [Array.getElem?_toList]
end Go.Proofs.YtikjckdoldiddaaGreatDoor

/- Bytes as a string. -/
namespace Go.Proofs.YtikjckdoldiddaaGreatDoor
open Go.RowKit Go.Maps
set_option linter.unusedVariables false
set_option linter.unusedSimpArgs false

/-- 'string(b)'. -/
theorem conv_str {F : Nat → Prop} {W : World} {a : Option Addr} {n c : Nat} {d : List UInt8} (h : ByF F W a n c d) : (convert 37 9 (.slice a n c)).run Tryz.prog W = .ok (.string ⟨d.toArray⟩) W := by
  cases a with
  | none =>
    have hc : c = 0 := h.2.2.2.1 rfl
    have hn : n = 0 := by have := h.2.1; omega
    subst hc; subst hn
    have : d = [] := List.eq_nil_of_length_eq_zero h.1.symm
    subst this
    exact Lib.run_convert_nil_bytes (P := Tryz.prog) W 37 9 5 0 Tryz.underlying37 Tryz.underlying5 Tryz.underlying9
  | some p =>
    obtain ⟨hnd, hrest⟩ := h
    subst hnd
    have h : ByF F W (some p) d.length c d := ⟨rfl, hrest⟩
    refine run_convert_bytes_back W 37 9 5 p c d Tryz.underlying37 Tryz.underlying5 Tryz.underlying9 fun j hj => ?_
    obtain ⟨h6, h7⟩ := h.2.2.2.2 p rfl
    obtain ⟨pb, po, ps⟩ := p
    obtain rfl : ps = none := h6 (by have := h.2.1; omega)
    have hadd : (⟨pb, po, none⟩ : Addr).add j = ⟨pb, po + j, none⟩ := by
      unfold Addr.add
      split
      · rename_i e; rw [e]; rfl
      rfl
    rw [hadd]
    exact (h7 j hj).2
end Go.Proofs.YtikjckdoldiddaaGreatDoor

/- Regions that draw their order, step by step; cells of a struct in memory. -/
namespace Go.Proofs.YtikjckdoldiddaaGreatDoor
open Go.RowKit Go.Maps
set_option linter.unusedVariables false
set_option linter.unusedSimpArgs false
attribute [local go_sem] bmax2 bmin2 bmax_two bmin_two
universe u

def nthO : List Oper → Nat → Option Oper
  | [], _ => none
  | x :: _, 0 => some x
  | _ :: r, k + 1 => nthO r k
theorem nthO_get : ∀ (l : List Oper) (k : Nat), l[k]? = nthO l k := by
  intro l
  induction l with
  | nil => intro k; rfl
  | cons x r ih => intro k; cases k with
    | zero => rfl
    | succ k => exact ih k
section
variable {P : Program} {l : List Oper} {Q : Exit → Act → World → Prop} {md : Region.Mode} {S : World → Prop}
theorem held_run {i : Nat} {oi : Oper} {v : Value} {fuel : Nat} {listed : Array Bool} {a : Act} {w : World} (hi : nthO l i = some oi)
    (hs : Region.noSelect l.toArray = true) (hf : Region.free md l.toArray listed i = true) (hr : (Region.ready md l.toArray listed).contains i = true)
    (hQ : ∀ c a w, Q (.panic c) (a.put oi.dst v) w → Q (.panic c) a w) (hw : Region.wanted oi (yielded l.toArray a.tmps) = true) (hS : S w) (hy : ∀ W, S W → (execOp a.eval oi).run P W = .ok (.value v) W)
    (h : wpAnyH P md l.toArray Q S fuel (listed.setIfInBounds i true) (a.put oi.dst v) w) : wpAnyH P md l.toArray Q S (fuel + 1) listed a w :=
  wpAnyH_take (by rw [List.getElem?_toArray, nthO_get]; exact hi) hs hf hr hQ (Or.inl ⟨hw, hy⟩) hS h
theorem held_skip {i : Nat} {oi : Oper} {fuel : Nat} {listed : Array Bool} {a : Act} {w : World} (hi : nthO l i = some oi)
    (hs : Region.noSelect l.toArray = true) (hf : Region.free md l.toArray listed i = true) (hr : (Region.ready md l.toArray listed).contains i = true)
    (hQ : ∀ c a w, Q (.panic c) (a.put oi.dst undef) w → Q (.panic c) a w) (hw : Region.wanted oi (yielded l.toArray a.tmps) = false) (hS : S w)
    (h : wpAnyH P md l.toArray Q S fuel (listed.setIfInBounds i true) (a.put oi.dst undef) w) : wpAnyH P md l.toArray Q S (fuel + 1) listed a w :=
  wpAnyH_take (by rw [List.getElem?_toArray, nthO_get]; exact hi) hs hf hr hQ (Or.inr ⟨hw, rfl⟩) hS h
theorem held_cons {fuel : Nat} {listed : Array Bool} {a : Act} {w : World} {i : Nat} {o : Oper} (ho : nthO l i = some o)
    (h : ∀ K' : Act → World → Prop, Shut (∀ a w, S w → (S w → wpAnyH P md l.toArray Q S fuel (listed.setIfInBounds i true) a w) → K' a w) → if Region.wanted o (yielded l.toArray a.tmps) = true then Oper.wp P o a w K' Q else K' (a.put o.dst undef) w) :
    AllReadyH P md l.toArray Q S fuel listed a w [i] :=
  AllReadyH.cons (by rw [List.getElem?_toArray, nthO_get]; exact ho) h AllReadyH.nil
end
section
variable {P : Program} {l : List Oper} {Q : Exit → Act → World → Prop} {md : Region.Mode} {S : World → Prop}
end
theorem exec_convert {P : Program} {ρ : Operand → Value} {o : Oper} {src dst : TypeId} {x : Operand} {v : Value} {W : World} (h : o.op = .convert src dst x) (hr : (convert src dst (ρ x)).run P W = .ok v W) :
    (execOp ρ o).run P W = .ok (.value v) W := by
  unfold execOp
  rw [h]
  dsimp only
  rw [Sem.run_bind, hr]
  rfl
section
variable {P : Program} {l : List Oper} {Q : Exit → Act → World → Prop} {md : Region.Mode} {S : World → Prop}
theorem held_cons2 {fuel : Nat} {listed : Array Bool} {a : Act} {w : World} {i j : Nat} {o p : Oper} (ho : nthO l i = some o) (hp : nthO l j = some p)
    (h : ∀ K' : Act → World → Prop, Shut (∀ a w, S w → (S w → wpAnyH P md l.toArray Q S fuel (listed.setIfInBounds i true) a w) → K' a w) → if Region.wanted o (yielded l.toArray a.tmps) = true then Oper.wp P o a w K' Q else K' (a.put o.dst undef) w)
    (h2 : ∀ K' : Act → World → Prop, Shut (∀ a w, S w → (S w → wpAnyH P md l.toArray Q S fuel (listed.setIfInBounds j true) a w) → K' a w) → if Region.wanted p (yielded l.toArray a.tmps) = true then Oper.wp P p a w K' Q else K' (a.put p.dst undef) w) :
    AllReadyH P md l.toArray Q S fuel listed a w [i, j] :=
  AllReadyH.cons (by rw [List.getElem?_toArray, nthO_get]; exact ho) h (AllReadyH.cons (by rw [List.getElem?_toArray, nthO_get]; exact hp) h2 AllReadyH.nil)
end
end Go.Proofs.YtikjckdoldiddaaGreatDoor

/- Files by their names, as sorted lists: plain. -/
namespace Go.Proofs.YtikjckdoldiddaaGreatDoor
open Go.RowKit Go.Maps
set_option linter.unusedVariables false
set_option linter.unusedSimpArgs false

abbrev Nm := List UInt8
abbrev By := List UInt8
section
variable {β : Type}
def tIns (x : Nm × β) : List (Nm × β) → List (Nm × β)
  | [] => [x]
  | y :: r => if bytesBefore x.1 y.1 then x :: y :: r else y :: tIns x r
def tDel (T : List (Nm × β)) (n : Nm) : List (Nm × β) := T.filter fun p => !(p.1 == n)
def tPut (T : List (Nm × β)) (n : Nm) (b : β) : List (Nm × β) := tIns (n, b) (tDel T n)
def tGet (T : List (Nm × β)) (n : Nm) : Option β := (T.find? fun p => p.1 == n).map Prod.snd
def tRise (T : List (Nm × β)) : Prop := T.Pairwise fun p q => bytesBefore p.1 q.1 = true
end

/-- A map's datum over the values themselves. -/
def dat (H : List (Nm × Value)) : DataW Value := .map (H.map fun p => (Lit.string p.1, DataW.held p.2))
def Rh (v : Value) : Option (DataW Value × List MemPlace) := some (.held v, [])

theorem dat_ins (n : Nm) (v : Value) : ∀ H : List (Nm × Value), DataW.insert (Lit.string n, DataW.held v) (H.map fun p => (Lit.string p.1, DataW.held p.2)) = (tIns (n, v) H).map fun p => (Lit.string p.1, DataW.held p.2) := by
  intro H
  induction H with
  | nil => rfl
  | cons y r ih =>
    by_cases hb : bytesBefore n y.1 = true
    · have e : tIns (n, v) (y :: r) = (n, v) :: y :: r := if_pos hb
      rw [e]
      exact if_pos (c := (Lit.string n).before (Lit.string y.1) = true) hb
    have e : tIns (n, v) (y :: r) = y :: tIns (n, v) r := if_neg hb
    rw [e, List.map_cons (l := tIns (n, v) r), ← ih]
    exact if_neg (c := (Lit.string n).before (Lit.string y.1) = true) hb
theorem dat_filter (n : Nm) (H : List (Nm × Value)) : (H.map fun p => (Lit.string p.1, (DataW.held p.2 : DataW Value))).filter (fun p => !p.1.sameKey (.string n)) = (tDel H n).map fun p => (Lit.string p.1, DataW.held p.2) := by
  unfold tDel
  rw [List.filter_map]
  rfl
theorem dat_put (H : List (Nm × Value)) (n : Nm) (v : Value) : (dat H).put (.string n) (.held v) = dat (tPut H n v) := by
  unfold dat DataW.put tPut
  dsimp only
  rw [dat_filter, dat_ins]
theorem dat_del (H : List (Nm × Value)) (n : Nm) : (dat H).del (.string n) = dat (tDel H n) := by
  unfold dat DataW.del
  dsimp only
  rw [dat_filter]
theorem dat_at (H : List (Nm × Value)) (n : Nm) (z : Value) : (dat H).atKey (.string n) (.held z) = .held ((tGet H n).getD z) := by
  unfold dat tGet
  simp only [DataW.atKey]
  rw [List.find?_map]
  have e : ((fun p : Lit × DataW Value => p.1.sameKey (Lit.string n)) ∘ fun p : Nm × Value => (Lit.string p.1, DataW.held p.2)) = fun p : Nm × Value => p.1 == n := rfl
  rw [e]
  cases H.find? fun p => p.1 == n <;> rfl
theorem dat_size (H : List (Nm × Value)) : Maps.size (dat H) = H.length := by simp [dat, Maps.size_eq]
theorem find_some_any {α : Type} (f : α → Bool) : ∀ l : List α, (l.find? f).isSome = l.any f := by
  intro l
  induction l with
  | nil => rfl
  | cons x r ih =>
    simp only [List.find?_cons, List.any_cons]
    cases f x with
    | true => rfl
    | false => simpa using ih
theorem dat_has (H : List (Nm × Value)) (n : Nm) : Maps.has (dat H) (.string n) = (tGet H n).isSome := by
  unfold dat tGet
  rw [Maps.has_eq, List.any_map, Option.isSome_map, find_some_any]
  rfl

/-! ### lists of names -/
theorem bb_irrefl : ∀ a : Nm, bytesBefore a a = false := by
  intro a
  induction a with
  | nil => rfl
  | cons x r ih => simp [bytesBefore, ih]
theorem bb_trans : ∀ {a b c : Nm}, bytesBefore a b = true → bytesBefore b c = true → bytesBefore a c = true := by
  intro a
  induction a with
  | nil => intro b c h1 h2; cases b <;> cases c <;> simp_all [bytesBefore]
  | cons x r ih =>
    intro b c h1 h2
    cases b with
    | nil => simp [bytesBefore] at h1
    | cons y s =>
      cases c with
      | nil => simp [bytesBefore] at h2
      | cons z t =>
        simp only [bytesBefore, Bool.or_eq_true, Bool.and_eq_true, decide_eq_true_eq, beq_iff_eq] at h1 h2 ⊢
        rcases h1 with h1 | ⟨rfl, h1⟩
        · rcases h2 with h2 | ⟨rfl, h2⟩
          · exact .inl (UInt8.lt_trans h1 h2)
          exact .inl h1
        rcases h2 with h2 | ⟨rfl, h2⟩
        · exact .inl h2
        exact .inr ⟨rfl, ih h1 h2⟩
theorem bb_total : ∀ {a b : Nm}, a ≠ b → bytesBefore a b = false → bytesBefore b a = true := by
  intro a
  induction a with
  | nil => intro b hne h; cases b <;> simp_all [bytesBefore]
  | cons x r ih =>
    intro b hne h
    cases b with
    | nil => rfl
    | cons y s =>
      simp only [bytesBefore, Bool.or_eq_false_iff, Bool.and_eq_false_iff, decide_eq_false_iff_not, beq_eq_false_iff_ne, Bool.or_eq_true, Bool.and_eq_true, decide_eq_true_eq, beq_iff_eq] at h ⊢
      obtain ⟨h1, h2⟩ := h
      by_cases e : x = y
      · subst e
        refine .inr ⟨rfl, ih (fun e => hne (by rw [e])) ?_⟩
        rcases h2 with h2 | h2
        · exact absurd rfl h2
        exact h2
      left
      have hn : x.toNat ≠ y.toNat := fun h => e (UInt8.toNat_inj.1 h)
      rw [UInt8.lt_iff_toNat_lt] at h1 ⊢
      omega
section
variable {β : Type}
theorem tGet_mem {T : List (Nm × β)} {n : Nm} {b : β} (h : tGet T n = some b) : (n, b) ∈ T := by
  unfold tGet at h
  cases hf : T.find? fun p => p.1 == n with
  | none => rw [hf] at h; cases h
  | some p =>
    rw [hf] at h
    have h1 := List.find?_some hf
    have h2 := List.mem_of_find?_eq_some hf
    obtain ⟨a, c⟩ := p
    simp at h1 h
    subst h1; subst h
    exact h2
theorem tGet_none {T : List (Nm × β)} {n : Nm} (h : tGet T n = none) : ∀ p ∈ T, p.1 ≠ n := by
  unfold tGet at h
  rw [Option.map_eq_none_iff, List.find?_eq_none] at h
  intro p hp e
  have := h p hp
  simp [e] at this
theorem tRise.ne {T : List (Nm × β)} (h : tRise T) : T.Pairwise fun p q => p.1 ≠ q.1 :=
  h.imp fun {p q} h e => by rw [e, bb_irrefl] at h; cases h
theorem tRise.get {T : List (Nm × β)} (h : tRise T) {n : Nm} {b : β} (hm : (n, b) ∈ T) : tGet T n = some b := by
  cases hg : tGet T n with
  | none => exact absurd rfl (tGet_none hg _ hm)
  | some b' =>
    have hm' := tGet_mem hg
    have hp := h.ne
    have : ∀ (T : List (Nm × β)), T.Pairwise (fun p q => p.1 ≠ q.1) → (n, b) ∈ T → (n, b') ∈ T → b' = b := by
      intro T
      induction T with
      | nil => intro _ h; cases h
      | cons x r ih =>
        intro hp h1 h2
        rw [List.pairwise_cons] at hp
        rcases List.mem_cons.1 h1 with e1 | e1
        · rcases List.mem_cons.1 h2 with e2 | e2
          · rw [← e1] at e2; injection e2
          exact absurd (by rw [← e1]) (hp.1 _ e2)
        rcases List.mem_cons.1 h2 with e2 | e2
        · exact absurd (by rw [← e2]) (hp.1 _ e1)
        exact ih hp.2 e1 e2
    rw [this T hp hm hm']
theorem tIns_mem {x y : Nm × β} : ∀ {T : List (Nm × β)}, y ∈ tIns x T ↔ y = x ∨ y ∈ T := by
  intro T
  induction T with
  | nil => simp [tIns]
  | cons z r ih =>
    unfold tIns
    split
    · simp
    simp only [List.mem_cons, ih]
    constructor
    · rintro (h | h | h)
      · exact .inr (.inl h)
      · exact .inl h
      exact .inr (.inr h)
    rintro (h | h | h)
    · exact .inr (.inl h)
    · exact .inl h
    exact .inr (.inr h)
theorem tIns_len (x : Nm × β) : ∀ T : List (Nm × β), (tIns x T).length = T.length + 1 := by
  intro T
  induction T with
  | nil => rfl
  | cons z r ih => unfold tIns; split <;> simp [ih]
theorem tDel_len (T : List (Nm × β)) (n : Nm) : (tDel T n).length ≤ T.length := List.length_filter_le _ _
theorem tDel_lt {T : List (Nm × β)} {n : Nm} {b : β} (h : tGet T n = some b) : (tDel T n).length + 1 ≤ T.length := by
  have hm := tGet_mem h
  unfold tDel
  have : ∀ T : List (Nm × β), (n, b) ∈ T → (T.filter fun p => !(p.1 == n)).length + 1 ≤ T.length := by
    intro T
    induction T with
    | nil => intro h; cases h
    | cons x r ih =>
      intro h
      rcases List.mem_cons.1 h with rfl | h
      · have := List.length_filter_le (fun p : Nm × β => !(p.1 == n)) r
        simp; omega
      have := ih h
      rw [List.filter_cons]
      split <;> simp <;> omega
  exact this T hm
theorem tPut_len (T : List (Nm × β)) (n : Nm) (b : β) : (tPut T n b).length ≤ T.length + 1 := by
  unfold tPut; rw [tIns_len]; have := tDel_len T n; omega
theorem tPut_len_some {T : List (Nm × β)} {n : Nm} {b0 : β} (h : tGet T n = some b0) (b : β) : (tPut T n b).length ≤ T.length := by
  unfold tPut; rw [tIns_len]; have := tDel_lt h; omega
theorem tDel_mem {T : List (Nm × β)} {n : Nm} {y : Nm × β} : y ∈ tDel T n ↔ y ∈ T ∧ y.1 ≠ n := by
  unfold tDel; simp
theorem tPut_mem {T : List (Nm × β)} {n : Nm} {b : β} {y : Nm × β} : y ∈ tPut T n b ↔ y = (n, b) ∨ (y ∈ T ∧ y.1 ≠ n) := by
  unfold tPut; rw [tIns_mem, tDel_mem]
theorem tIns_rise {x : Nm × β} : ∀ {T : List (Nm × β)}, tRise T → (∀ p ∈ T, p.1 ≠ x.1) → tRise (tIns x T) := by
  intro T
  induction T with
  | nil => intro _ _; simp [tIns, tRise]
  | cons z r ih =>
    intro h hne
    have h' := h
    unfold tRise at h
    rw [List.pairwise_cons] at h
    unfold tIns
    split
    · rename_i hb
      unfold tRise
      rw [List.pairwise_cons]
      refine ⟨fun p hp => ?_, h'⟩
      rcases List.mem_cons.1 hp with rfl | hp
      · exact hb
      exact bb_trans hb (h.1 p hp)
    rename_i hb
    unfold tRise
    rw [List.pairwise_cons]
    refine ⟨fun p hp => ?_, ih h.2 fun p hp => hne p (by simp [hp])⟩
    rcases tIns_mem.1 hp with rfl | hp
    · exact bb_total (fun e => hne z (by simp) e.symm) (by simpa using hb)
    exact h.1 p hp
theorem tDel_rise {T : List (Nm × β)} (h : tRise T) (n : Nm) : tRise (tDel T n) := List.Pairwise.filter _ h
theorem tPut_rise {T : List (Nm × β)} (h : tRise T) (n : Nm) (b : β) : tRise (tPut T n b) :=
  tIns_rise (tDel_rise h n) fun p hp => (tDel_mem.1 hp).2
theorem tRise.ext : ∀ {S T : List (Nm × β)}, tRise S → tRise T → (∀ p, p ∈ S ↔ p ∈ T) → S = T := by
  intro S
  induction S with
  | nil =>
    intro T _ _ h
    cases T with
    | nil => rfl
    | cons y r => exact absurd ((h y).2 (by simp)) (by simp)
  | cons x S ih =>
    intro T hS hT h
    cases T with
    | nil => exact absurd ((h x).1 (by simp)) (by simp)
    | cons y T =>
      unfold tRise at hS hT
      rw [List.pairwise_cons] at hS hT
      have e : x = y := by
        rcases List.mem_cons.1 ((h x).1 (by simp)) with e | e
        · exact e
        rcases List.mem_cons.1 ((h y).2 (by simp)) with e' | e'
        · exact e'.symm
        have h1 := hT.1 x e
        have h2 := hS.1 y e'
        have h3 := bb_trans h1 h2
        rw [bb_irrefl] at h3; cases h3
      subst e
      rw [ih hS.2 hT.2 fun p => ?_]
      constructor
      · intro hp
        rcases List.mem_cons.1 ((h p).1 (by simp [hp])) with e | e
        · subst e; have := hS.1 p hp; rw [bb_irrefl] at this; cases this
        exact e
      intro hp
      rcases List.mem_cons.1 ((h p).2 (by simp [hp])) with e | e
      · subst e; have := hT.1 p hp; rw [bb_irrefl] at this; cases this
      exact e
end
end Go.Proofs.YtikjckdoldiddaaGreatDoor

/- What a disk has, and what its calls lead to: plain. -/
namespace Go.Proofs.YtikjckdoldiddaaGreatDoor
open Go.RowKit Go.Maps
set_option linter.unusedVariables false
set_option linter.unusedSimpArgs false

abbrev Tab := List (Nm × By)
inductive ActS
  | write (n : Nm) (k : Nat) (b : By)
  | trim (n : Nm) (k : Nat)
  | move (o n : Nm)
  | drop (n : Nm)
def tOld (T : Tab) (n : Nm) : By := (tGet T n).getD []
def wrB (o : By) (k : Nat) (b : By) : By := o.take k ++ b ++ o.drop (k + b.length)
def ActS.run : ActS → Tab → Tab
  | .write n k b, T => tPut T n (wrB (tOld T n) k b)
  | .trim n k, T => tPut T n ((tOld T n).take k)
  | .move o n, T => tPut (tDel T o) n (tOld T o)
  | .drop n, T => tDel T n
def ActS.data : ActS → By
  | .write _ _ b => b
  | _ => []
def ActS.cut : ActS → Nat → ActS
  | .write n k b, q => .write n k (b.take q)
  | a, _ => a
def tTot (T : Tab) : Nat := (T.map fun p => p.2.length).sum
def aTot (l : List ActS) : Nat := (l.map fun a => a.data.length).sum
def runAll (T : Tab) (l : List ActS) : Tab := l.foldl (fun T a => a.run T) T
/-- An act that can be done there. -/
def ActS.Fits : ActS → Tab → Prop
  | .write n k b, T => n.length ≤ 32 ∧ k ≤ (tOld T n).length ∧ (tGet T n = none → T.length < 4096)
  | .trim n k, T => n.length ≤ 32 ∧ (tGet T n).isSome ∧ k ≤ (tOld T n).length
  | .move o n, T => o.length ≤ 32 ∧ n.length ≤ 32 ∧ (tGet T o).isSome
  | .drop n, T => n.length ≤ 32
def fitsAll : Tab → List ActS → Prop
  | _, [] => True
  | T, a :: l => a.Fits T ∧ fitsAll (a.run T) l

theorem runAll_snoc (T : Tab) (l : List ActS) (a : ActS) : runAll T (l ++ [a]) = a.run (runAll T l) := by simp [runAll]
theorem fitsAll_append : ∀ (l m : List ActS) (T : Tab), fitsAll T (l ++ m) ↔ fitsAll T l ∧ fitsAll (runAll T l) m := by
  intro l m
  induction l with
  | nil => intro T; simp [fitsAll, runAll]
  | cons a l ih => intro T; simp only [List.cons_append, fitsAll, ih, and_assoc]; rfl
theorem aTot_append (l m : List ActS) : aTot (l ++ m) = aTot l + aTot m := by simp [aTot]

/-! ### sizes -/
theorem tTot_cons (x : Nm × By) (T : Tab) : tTot (x :: T) = x.2.length + tTot T := by simp [tTot]
theorem tTot_ins (x : Nm × By) : ∀ T : Tab, tTot (tIns x T) = x.2.length + tTot T := by
  intro T
  induction T with
  | nil => simp [tIns, tTot]
  | cons y r ih =>
    unfold tIns
    split
    · simp [tTot_cons]
    rw [tTot_cons, ih, tTot_cons]; omega
theorem tTot_mem {T : Tab} {p : Nm × By} (h : p ∈ T) : p.2.length ≤ tTot T := by
  induction T with
  | nil => cases h
  | cons y r ih =>
    rw [tTot_cons]
    rcases List.mem_cons.1 h with rfl | h
    · omega
    have := ih h; omega
theorem tOld_le (T : Tab) (n : Nm) : (tOld T n).length ≤ tTot T := by
  unfold tOld
  cases h : tGet T n with
  | none => simp
  | some b => exact tTot_mem (tGet_mem h)
theorem tTot_del_le (n : Nm) : ∀ T : Tab, tTot (tDel T n) ≤ tTot T := by
  intro T
  induction T with
  | nil => simp [tDel]
  | cons y r ih =>
    unfold tDel at *
    rw [List.filter_cons]
    split
    · rw [tTot_cons, tTot_cons]; omega
    rw [tTot_cons]; omega
theorem tTot_del (n : Nm) : ∀ T : Tab, tTot (tDel T n) + (tOld T n).length ≤ tTot T := by
  intro T
  induction T with
  | nil => simp [tDel, tOld, tGet]
  | cons y r ih =>
    by_cases e : y.1 = n
    · have h1 := tTot_del_le n r
      have h2 : tOld (y :: r) n = y.2 := by unfold tOld tGet; rw [List.find?_cons_of_pos (by simp [e])]; rfl
      have h3 : tDel (y :: r) n = tDel r n := by unfold tDel; rw [List.filter_cons_of_neg (by simp [e])]
      rw [h2, h3, tTot_cons]; omega
    have h2 : tOld (y :: r) n = tOld r n := by unfold tOld tGet; rw [List.find?_cons_of_neg (by simp [e])]
    have h3 : tDel (y :: r) n = y :: tDel r n := by unfold tDel; rw [List.filter_cons_of_pos (by simp [e])]
    rw [h2, h3, tTot_cons, tTot_cons]; omega
theorem tTot_put (T : Tab) (n : Nm) (b : By) : tTot (tPut T n b) + (tOld T n).length ≤ tTot T + b.length := by
  unfold tPut
  rw [tTot_ins]
  have := tTot_del n T
  simp only
  omega
theorem wrB_len (o : By) (k : Nat) (b : By) (h : k ≤ o.length) : (wrB o k b).length = max o.length (k + b.length) := by
  unfold wrB; simp; omega
theorem ActS.run_tot {a : ActS} {T : Tab} (h : a.Fits T) : tTot (a.run T) ≤ tTot T + a.data.length := by
  cases a with
  | write n k b =>
    have h1 := tTot_put T n (wrB (tOld T n) k b)
    have h3 : k ≤ (tOld T n).length := h.2.1
    have h2 := wrB_len (tOld T n) k b h3
    simp only [ActS.run, ActS.data]
    omega
  | trim n k =>
    have h1 := tTot_put T n ((tOld T n).take k)
    have h2 : ((tOld T n).take k).length ≤ (tOld T n).length := List.length_take_le' _ _
    simp only [ActS.run, ActS.data]
    omega
  | move o n =>
    have h1 := tTot_put (tDel T o) n (tOld T o)
    have h2 := tTot_del o T
    simp only [ActS.run, ActS.data]
    omega
  | drop n =>
    have h2 := tTot_del n T
    simp only [ActS.run, ActS.data]
    omega
theorem ActS.run_rise {T : Tab} (h : tRise T) (a : ActS) : tRise (a.run T) := by
  cases a with
  | write n k b => exact tPut_rise h _ _
  | trim n k => exact tPut_rise h _ _
  | move o n => exact tPut_rise (tDel_rise h _) _ _
  | drop n => exact tDel_rise h _
theorem ActS.run_len {a : ActS} {T : Tab} (h : a.Fits T) (hT : T.length ≤ 4096) : (a.run T).length ≤ 4096 := by
  cases a with
  | write n k b =>
    simp only [ActS.run]
    cases hg : tGet T n with
    | none => have h1 := h.2.2 hg; have h2 := tPut_len T n (wrB (tOld T n) k b); omega
    | some b0 => have h2 := tPut_len_some hg (wrB (tOld T n) k b); omega
  | trim n k =>
    simp only [ActS.run]
    obtain ⟨b0, hg⟩ := Option.isSome_iff_exists.1 h.2.1
    have h2 := tPut_len_some hg ((tOld T n).take k); omega
  | move o n =>
    simp only [ActS.run]
    obtain ⟨b0, hg⟩ := Option.isSome_iff_exists.1 h.2.2
    have h1 := tDel_lt hg
    have h2 := tPut_len (tDel T o) n (tOld T o); omega
  | drop n =>
    simp only [ActS.run]
    have := tDel_len T n; omega
theorem ActS.cut_fits {a : ActS} {T : Tab} (h : a.Fits T) (q : Nat) : (a.cut q).Fits T := by
  cases a <;> exact h
theorem ActS.cut_data (a : ActS) (q : Nat) : (a.cut q).data = a.data.take q := by
  cases a <;> simp [ActS.cut, ActS.data]
theorem runAll_ok : ∀ (l : List ActS) (T : Tab), fitsAll T l → tRise T → T.length ≤ 4096 → tRise (runAll T l) ∧ (runAll T l).length ≤ 4096 ∧ tTot (runAll T l) ≤ tTot T + aTot l := by
  intro l
  induction l with
  | nil => intro T _ h1 h2; exact ⟨h1, h2, Nat.le_refl _⟩
  | cons a l ih =>
    intro T h h1 h2
    obtain ⟨ha, hl⟩ := h
    obtain ⟨r1, r2, r3⟩ := ih (a.run T) hl (ActS.run_rise h1 a) (ActS.run_len ha h2)
    refine ⟨r1, r2, ?_⟩
    have := ActS.run_tot ha
    show tTot (runAll (a.run T) l) ≤ _
    simp only [aTot, List.map_cons, List.sum_cons] at r3 ⊢
    omega

/-! ### the disk -/
structure DS where
  off : Bool
  left : Int
  keep : Int
  tear : Int
  room : Int
  seen : Tab
  last : Tab
  acts : List ActS
def DS.used (s : DS) : Nat := tTot s.last + aTot s.acts
structure DS.Ok (s : DS) : Prop where
  rise : tRise s.last
  len : s.last.length ≤ 4096
  fits : fitsAll s.last s.acts
  seen : s.seen = runAll s.last s.acts
  room0 : 0 ≤ s.room
  room1 : s.room ≤ 16777216
  used : (s.used : Int) ≤ s.room
  left0 : 0 ≤ s.left
  left1 : s.left ≤ 9223372036854775807
  k64 : In64 s.keep
  t64 : In64 s.tear
  off : s.off = true → s.left = 0 ∧ s.acts = []
theorem DS.Ok.run {s : DS} (h : s.Ok) : tRise s.seen ∧ s.seen.length ≤ 4096 ∧ tTot s.seen ≤ 16777216 ∧ tTot s.last ≤ 16777216 ∧ aTot s.acts ≤ 16777216 := by
  obtain ⟨h1, h2, h3⟩ := runAll_ok s.acts s.last h.fits h.rise h.len
  have := h.used
  have := h.room1
  unfold DS.used at *
  rw [h.seen]
  refine ⟨h1, h2, ?_, ?_, ?_⟩ <;> omega

def okC (c : UInt8) : Bool := decide (c = 46) || (decide (48 ≤ c) && decide (c ≤ 57)) || (decide (97 ≤ c) && decide (c ≤ 122))
def mayS (n : Nm) : Bool := decide (1 ≤ n.length) && decide (n.length ≤ 32) && n.all okC
/-- Why a file can't be asked; 0: it can. -/
def DS.find (s : DS) (n : Nm) : Int := if s.off = true then 22 else if mayS n = false then 20 else if tGet s.seen n = none then 21 else 0

/-- The acts that last when the power goes. -/
def lastsS (acts : List ActS) (keep tear : Int) : List ActS :=
  if (max 0 (min keep acts.length)).toNat = 0 then [] else
    acts.take ((max 0 (min keep acts.length)).toNat - 1) ++ ((acts[(max 0 (min keep acts.length)).toNat - 1]?).map fun a => a.cut (a.data.length - (max 0 (min tear a.data.length)).toNat)).toList
def DS.fall (s : DS) (keep tear : Int) : DS :=
  ⟨true, 0, 0, 0, s.room, runAll s.last (lastsS s.acts keep tear), runAll s.last (lastsS s.acts keep tear), []⟩
/-- An act counts; true: it is the last one. -/
def DS.hit (s : DS) : Bool × DS := if s.left = 0 then (false, s) else (decide (s.left = 1), { s with left := s.left - 1 })
def DS.does (s : DS) (a : ActS) : Int × DS :=
  let r := DS.hit { s with seen := a.run s.seen, acts := s.acts ++ [a] }
  if r.1 = true then (22, r.2.fall s.keep s.tear) else (0, r.2)
def DS.write (s : DS) (n : Nm) (k : Int) (b : By) : Int × DS :=
  if s.find n = 21 ∧ k = 0 then
    (if s.seen.length ≥ 4096 then (7, s) else if (b.length : Int) > s.room - s.used then (7, s) else s.does (.write n 0 b))
  else if s.find n ≠ 0 then (s.find n, s)
  else if k < 0 ∨ k > (tOld s.seen n).length then (1, s)
  else if (b.length : Int) > s.room - s.used then (7, s) else s.does (.write n k.toNat b)
def DS.trim (s : DS) (n : Nm) (k : Int) : Int × DS :=
  if s.find n ≠ 0 then (s.find n, s) else if k < 0 ∨ k > (tOld s.seen n).length then (1, s) else s.does (.trim n k.toNat)
def DS.move (s : DS) (o n : Nm) : Int × DS :=
  if s.find o ≠ 0 then (s.find o, s) else if mayS n = false then (20, s) else s.does (.move o n)
def DS.drop (s : DS) (n : Nm) : Int × DS :=
  if s.find n ≠ 0 then (s.find n, s) else s.does (.drop n)
def DS.sync (s : DS) : Int × DS :=
  if s.off = true then (22, s) else if s.hit.1 = true then (22, s.hit.2.fall s.keep s.tear) else (0, { s.hit.2 with last := s.seen, acts := [] })
def DS.crash (s : DS) (keep tear : Int) : Int × DS := if s.off = true then (22, s) else (0, s.fall keep tear)
def DS.start (s : DS) : DS := { s with off := false }
def DS.list (s : DS) : List Nm := if s.off = true then [] else s.seen.map Prod.fst
def DS.read (s : DS) (n : Nm) : By × Int := if s.find n ≠ 0 then ([], s.find n) else (tOld s.seen n, 0)

/-! ### they keep what holds of a disk -/
theorem lastsS_split (s : List ActS) (keep tear : Int) : lastsS s keep tear = [] ∨ ∃ m a q, m < s.length ∧ s[m]? = some a ∧ q ≤ a.data.length ∧ lastsS s keep tear = s.take m ++ [a.cut q] := by
  unfold lastsS
  by_cases hn : (max 0 (min keep s.length)).toNat = 0
  · rw [if_pos hn]; exact .inl rfl
  rw [if_neg hn]
  have hm : (max 0 (min keep s.length)).toNat - 1 < s.length := by omega
  generalize (max 0 (min keep s.length)).toNat - 1 = m at *
  refine .inr ⟨m, s[m], s[m].data.length - (max 0 (min tear s[m].data.length)).toNat, hm, List.getElem?_eq_getElem hm, Nat.sub_le _ _, ?_⟩
  rw [List.getElem?_eq_getElem hm]; rfl
theorem fitsAll_lasts {T : Tab} {l : List ActS} (h : fitsAll T l) (keep tear : Int) : fitsAll T (lastsS l keep tear) ∧ aTot (lastsS l keep tear) ≤ aTot l := by
  rcases lastsS_split l keep tear with e | ⟨m, a, q, hm, ha, hq, e⟩
  · rw [e]; exact ⟨trivial, by simp [aTot]⟩
  rw [e]
  have hs : l = l.take m ++ (a :: l.drop (m + 1)) := by
    rw [List.getElem?_eq_getElem hm] at ha
    injection ha with ha
    rw [← ha, ← List.drop_eq_getElem_cons hm, List.take_append_drop]
  rw [hs, fitsAll_append] at h
  refine ⟨(fitsAll_append _ _ _).2 ⟨h.1, ActS.cut_fits h.2.1 q, trivial⟩, ?_⟩
  have h1 : aTot l = aTot (l.take m) + (a.data.length + aTot (l.drop (m + 1))) := by
    conv => lhs; rw [hs]
    rw [aTot_append]; simp [aTot]
  rw [aTot_append, h1]
  have : aTot [a.cut q] = min q a.data.length := by simp [aTot, ActS.cut_data]
  omega
theorem DS.Ok.fall {s : DS} (h : s.Ok) (keep tear : Int) : (s.fall keep tear).Ok := by
  obtain ⟨h1, h2⟩ := fitsAll_lasts h.fits keep tear
  obtain ⟨h3, h4, h5⟩ := runAll_ok _ _ h1 h.rise h.len
  have hu := h.used
  refine ⟨h3, h4, trivial, rfl, h.room0, h.room1, ?_, Int.le_refl _, (show (0 : Int) ≤ 9223372036854775807 by decide), (show In64 0 from ⟨by decide, by decide⟩), (show In64 0 from ⟨by decide, by decide⟩), fun _ => ⟨rfl, rfl⟩⟩
  show ((DS.fall s keep tear).used : Int) ≤ s.room
  unfold DS.used DS.fall at *
  simp only [aTot, List.map_nil, List.sum_nil, Nat.add_zero] at *
  omega
theorem DS.Ok.left {s : DS} (h : s.Ok) (hl : s.left ≠ 0) : ({ s with left := s.left - 1 } : DS).Ok :=
  ⟨h.rise, h.len, h.fits, h.seen, h.room0, h.room1, h.used, (by have := h.left0; simp only; omega), (by have := h.left1; simp only; omega), h.k64, h.t64, fun ho => absurd (h.off ho).1 hl⟩
theorem DS.Ok.hit {s : DS} (h : s.Ok) : s.hit.2.Ok := by
  unfold DS.hit
  split
  · exact h
  rename_i hl; exact h.left hl
theorem DS.Ok.add {s : DS} (h : s.Ok) (ho : s.off = false) {a : ActS} (ha : a.Fits s.seen) (hr : (a.data.length : Int) ≤ s.room - s.used) : ({ s with seen := a.run s.seen, acts := s.acts ++ [a] } : DS).Ok := by
  refine ⟨h.rise, h.len, ?_, ?_, h.room0, h.room1, ?_, h.left0, h.left1, h.k64, h.t64, fun e => by simp [ho] at e⟩
  · exact (fitsAll_append _ _ _).2 ⟨h.fits, by rw [← h.seen]; exact ⟨ha, trivial⟩⟩
  · simp only [runAll_snoc]; rw [h.seen]
  have hu := h.used
  unfold DS.used at *
  simp only [aTot_append]
  have : aTot [a] = a.data.length := by simp [aTot]
  omega
theorem DS.Ok.does {s : DS} (h : s.Ok) (ho : s.off = false) {a : ActS} (ha : a.Fits s.seen) (hr : (a.data.length : Int) ≤ s.room - s.used) : (s.does a).2.Ok := by
  have h1 := h.add ho ha hr
  unfold DS.does
  dsimp only
  split
  · exact h1.hit.fall _ _
  exact h1.hit
theorem DS.find_zero {s : DS} {n : Nm} (h : s.find n = 0) : s.off = false ∧ mayS n = true ∧ ∃ b, tGet s.seen n = some b := by
  unfold DS.find at h
  split at h
  · cases h
  split at h
  · cases h
  split at h
  · cases h
  rename_i h1 h2 h3
  refine ⟨by simpa using h1, by simpa using h2, ?_⟩
  cases hg : tGet s.seen n with
  | none => exact absurd hg h3
  | some b => exact ⟨b, rfl⟩
theorem DS.find_21 {s : DS} {n : Nm} (h : s.find n = 21) : s.off = false ∧ mayS n = true ∧ tGet s.seen n = none := by
  unfold DS.find at h
  split at h
  · cases h
  split at h
  · cases h
  split at h
  · rename_i h1 h2 h3
    exact ⟨by simpa using h1, by simpa using h2, h3⟩
  cases h
theorem mayS_len {n : Nm} (h : mayS n = true) : 1 ≤ n.length ∧ n.length ≤ 32 := by
  unfold mayS at h
  simp only [Bool.and_eq_true, decide_eq_true_eq] at h
  exact h.1
theorem DS.Ok.write {s : DS} (h : s.Ok) (n : Nm) (k : Int) (b : By) : (s.write n k b).2.Ok := by
  unfold DS.write
  split
  · rename_i hf
    obtain ⟨h1, h2, h3⟩ := DS.find_21 hf.1
    split
    · exact h
    split
    · exact h
    refine h.does h1 ⟨(mayS_len h2).2, Nat.zero_le _, fun _ => by omega⟩ ?_
    simp only [ActS.data]; omega
  split
  · exact h
  rename_i hf
  obtain ⟨h1, h2, b0, h3⟩ := DS.find_zero (Decidable.not_not.1 hf)
  split
  · exact h
  split
  · exact h
  refine h.does h1 ⟨(mayS_len h2).2, by omega, fun e => by rw [h3] at e; cases e⟩ ?_
  simp only [ActS.data]; omega
theorem DS.Ok.trim {s : DS} (h : s.Ok) (n : Nm) (k : Int) : (s.trim n k).2.Ok := by
  unfold DS.trim
  split
  · exact h
  rename_i hf
  obtain ⟨h1, h2, b0, h3⟩ := DS.find_zero (Decidable.not_not.1 hf)
  split
  · exact h
  refine h.does h1 ⟨(mayS_len h2).2, by rw [h3]; rfl, by omega⟩ ?_
  have := h.used
  simp only [ActS.data, List.length_nil]; omega
theorem DS.Ok.move {s : DS} (h : s.Ok) (o n : Nm) : (s.move o n).2.Ok := by
  unfold DS.move
  split
  · exact h
  rename_i hf
  obtain ⟨h1, h2, b0, h3⟩ := DS.find_zero (Decidable.not_not.1 hf)
  split
  · exact h
  rename_i hn
  refine h.does h1 ⟨(mayS_len h2).2, (mayS_len (by simpa using hn)).2, by rw [h3]; rfl⟩ ?_
  have := h.used
  simp only [ActS.data, List.length_nil]; omega
theorem DS.Ok.drop {s : DS} (h : s.Ok) (n : Nm) : (s.drop n).2.Ok := by
  unfold DS.drop
  split
  · exact h
  rename_i hf
  obtain ⟨h1, h2, b0, h3⟩ := DS.find_zero (Decidable.not_not.1 hf)
  refine h.does h1 (mayS_len h2).2 ?_
  have := h.used
  simp only [ActS.data, List.length_nil]; omega
theorem DS.Ok.sync {s : DS} (h : s.Ok) : s.sync.2.Ok := by
  unfold DS.sync
  split
  · exact h
  rename_i ho
  split
  · exact h.hit.fall _ _
  have h1 := h.hit
  obtain ⟨r1, r2, r3, -⟩ := h.run
  have hr := runAll_ok _ _ h.fits h.rise h.len
  have hu := h.used
  have hs := h.seen
  have e1 : s.hit.2.room = s.room := by unfold DS.hit; split <;> rfl
  have e2 : s.hit.2.seen = s.seen := by unfold DS.hit; split <;> rfl
  have e3 : s.hit.2.off = s.off := by unfold DS.hit; split <;> rfl
  refine ⟨r1, r2, trivial, e2, h1.room0, h1.room1, ?_, h1.left0, h1.left1, h1.k64, h1.t64, fun e => absurd (e3.symm.trans e) ho⟩
  show ((tTot s.seen + aTot [] : Nat) : Int) ≤ s.hit.2.room
  rw [e1, hs]
  unfold DS.used at hu
  simp only [aTot, List.map_nil, List.sum_nil, Nat.add_zero] at *
  omega
theorem DS.Ok.crash {s : DS} (h : s.Ok) (keep tear : Int) : (s.crash keep tear).2.Ok := by
  unfold DS.crash
  split
  · exact h
  exact h.fall _ _
theorem DS.Ok.start {s : DS} (h : s.Ok) : s.start.Ok :=
  ⟨h.rise, h.len, h.fits, h.seen, h.room0, h.room1, h.used, h.left0, h.left1, h.k64, h.t64, fun e => by simp [DS.start] at e⟩
end Go.Proofs.YtikjckdoldiddaaGreatDoor

/- Numbers and records as bytes: plain. -/
namespace Go.Proofs.YtikjckdoldiddaaGreatDoor
open Go.RowKit
set_option linter.unusedVariables false
set_option linter.unusedSimpArgs false

/-- The groups ahead of the last one. -/
def hiB : Nat → Nat → By
  | 0, _ => []
  | f + 1, n => if n = 0 then [] else hiB f (n / 128) ++ [UInt8.ofNat (n % 128 + 128)]
def numB (n : Nat) : By := hiB 8 (n / 128) ++ [UInt8.ofNat (n % 128)]
def numS (x : Int) : By := numB (max x 0).toNat
def crc1 (c : Nat) : Nat := if 2147483648 ≤ c then ((c * 2) % 4294967296) ^^^ 79764919 else c * 2
def crc8 : Nat → Nat → Nat
  | 0, c => c
  | k + 1, c => crc8 k (crc1 c)
def crcB (c : Nat) (x : UInt8) : Nat := crc8 8 (c ^^^ (x.toNat * 16777216))
def crc (b : By) : Nat := b.foldl crcB 4294967295
def fourB (c : Nat) : By := [UInt8.ofNat (c / 16777216), UInt8.ofNat (c / 65536 % 256), UInt8.ofNat (c / 256 % 256), UInt8.ofNat (c % 256)]
def headB (p : By) : By := 93 :: numB p.length
def recB (p : By) : By := headB p ++ p ++ fourB (crc (headB p ++ p))
/-- A number from bytes: it, how many bytes it has, the error. -/
def rdB (i acc : Nat) : By → Nat × Nat × Int
  | [] => (0, 0, 2)
  | x :: r => if i = 0 ∧ x = 128 then (0, 0, 10) else if i = 9 then (0, 0, 5) else
      if x < 128 then (acc * 128 + x.toNat % 128, i + 1, 0) else rdB (i + 1) (acc * 128 + x.toNat % 128) r
def readB (b : By) : Nat × Nat × Int := rdB 0 0 b
def pickB (b : By) : By × Nat × Int :=
  match b with
  | [] => ([], 0, 2)
  | x :: r =>
    if x ≠ 93 then ([], 0, 10) else
    if (readB r).2.2 ≠ 0 then ([], 0, (readB r).2.2) else
    if 65536 < (readB r).1 then ([], 0, 4) else
    if b.length < 1 + (readB r).2.1 + (readB r).1 + 4 then ([], 0, 2) else
    if (b.drop (1 + (readB r).2.1 + (readB r).1)).take 4 ≠ fourB (crc (b.take (1 + (readB r).2.1 + (readB r).1))) then ([], 0, 11) else
    ((b.drop (1 + (readB r).2.1)).take (readB r).1, 1 + (readB r).2.1 + (readB r).1 + 4, 0)
def rowsG : Nat → By → List By × Nat
  | 0, _ => ([], 0)
  | f + 1, b => if (pickB b).2.2 ≠ 0 then ([], 0) else ((pickB b).1 :: (rowsG f (b.drop (pickB b).2.1)).1, (pickB b).2.1 + (rowsG f (b.drop (pickB b).2.1)).2)
def rowsB (b : By) : List By × Nat := rowsG (b.length + 1) b

/-! ### a number comes back -/
theorem hiB_succ (f n : Nat) (h : n ≠ 0) : hiB (f + 1) n = hiB f (n / 128) ++ [UInt8.ofNat (n % 128 + 128)] := by
  show (if n = 0 then _ else _) = _
  rw [if_neg h]
theorem hiB_zero (f : Nat) : hiB f 0 = [] := by cases f <;> rfl
theorem hiB_len : ∀ f n, (hiB f n).length ≤ f := by
  intro f
  induction f with
  | zero => intro n; simp [hiB]
  | succ f ih =>
    intro n
    by_cases h : n = 0
    · subst h; rw [hiB_zero]; simp
    rw [hiB_succ f n h]; have := ih (n / 128); simp; omega
theorem hiB_len_pos : ∀ f n, 0 < n → 0 < f → 0 < (hiB f n).length := by
  intro f n hn hf
  cases f with
  | zero => omega
  | succ f => rw [hiB_succ f n (by omega)]; simp
/-- Reading goes through the groups ahead of the last one. -/
theorem rdB_hi : ∀ (f n : Nat) (r : By) (i acc : Nat), n < 128 ^ f → i + (hiB f n).length ≤ 8 → (i = 0 → acc = 0) → (0 < i → 0 < acc) →
    rdB i acc (hiB f n ++ r) = rdB (i + (hiB f n).length) (acc * 128 ^ (hiB f n).length + n) r := by
  intro f
  induction f with
  | zero =>
    intro n r i acc h _ _ _
    have : n = 0 := by simpa using h
    subst this
    simp [hiB]
  | succ f ih =>
    intro n r i acc h hi ha hb
    by_cases hn : n = 0
    · subst hn; rw [hiB_zero]; simp
    rw [hiB_succ f n hn] at hi ⊢
    rw [List.append_assoc]
    have hlt : n / 128 < 128 ^ f := by rw [Nat.div_lt_iff_lt_mul (by omega)]; rw [Nat.pow_succ] at h; exact h
    have hl : (hiB f (n / 128) ++ [UInt8.ofNat (n % 128 + 128)]).length = (hiB f (n / 128)).length + 1 := by simp
    rw [hl] at hi ⊢
    rw [ih (n / 128) _ i acc hlt (by omega) ha hb]
    have hx : (UInt8.ofNat (n % 128 + 128)).toNat = n % 128 + 128 := by rw [UInt8.toNat_ofNat']; omega
    have hx2 : ¬ UInt8.ofNat (n % 128 + 128) < 128 := by rw [UInt8.lt_iff_toNat_lt, hx]; simp
    have h9 : i + (hiB f (n / 128)).length ≠ 9 := by omega
    have h0 : ¬ (i + (hiB f (n / 128)).length = 0 ∧ UInt8.ofNat (n % 128 + 128) = 128) := by
      rintro ⟨e1, e2⟩
      have e3 := congrArg UInt8.toNat e2
      rw [hx] at e3
      have e4 : (128 : UInt8).toNat = 128 := rfl
      have e5 : n % 128 = 0 := by omega
      have e6 : 0 < n / 128 := by omega
      by_cases hf : 0 < f
      · have := hiB_len_pos f (n / 128) e6 hf; omega
      have : f = 0 := by omega
      subst this
      simp at hlt; omega
    show (if _ then _ else if _ then _ else if _ then _ else _) = _
    rw [if_neg h0, if_neg h9, if_neg hx2, hx]
    congr 1
    have e : (n % 128 + 128) % 128 = n % 128 := by omega
    rw [e, Nat.pow_succ, Nat.add_mul, Nat.mul_assoc]
    omega
theorem readB_num {n : Nat} (h : n < 9223372036854775808) (r : By) : readB (numB n ++ r) = (n, (numB n).length, 0) := by
  unfold readB numB
  rw [List.append_assoc]
  have hlt : n / 128 < 128 ^ 8 := by have : (128 : Nat) ^ 8 = 72057594037927936 := by decide
                                     omega
  have hl := hiB_len 8 (n / 128)
  rw [rdB_hi 8 (n / 128) _ 0 0 hlt (by omega) (fun _ => rfl) (by omega)]
  have hx : (UInt8.ofNat (n % 128)).toNat = n % 128 := by rw [UInt8.toNat_ofNat']; omega
  have hx2 : UInt8.ofNat (n % 128) < 128 := by
    rw [UInt8.lt_iff_toNat_lt, hx]
    have : (128 : UInt8).toNat = 128 := rfl
    omega
  have h9 : 0 + (hiB 8 (n / 128)).length ≠ 9 := by omega
  have h0 : ¬ (0 + (hiB 8 (n / 128)).length = 0 ∧ UInt8.ofNat (n % 128) = 128) := by
    rintro ⟨-, e2⟩
    rw [e2] at hx2
    exact absurd hx2 (by decide)
  show (if _ then _ else if _ then _ else if _ then _ else _) = _
  rw [if_neg h0, if_neg h9, if_pos hx2, hx]
  simp only [Prod.mk.injEq, List.length_append, List.length_cons, List.length_nil, and_true]
  refine ⟨?_, by omega⟩
  omega
theorem numB_len (n : Nat) : 1 ≤ (numB n).length ∧ (numB n).length ≤ 9 := by
  unfold numB
  have := hiB_len 8 (n / 128)
  simp; omega
theorem fourB_len (c : Nat) : (fourB c).length = 4 := rfl
theorem recB_len (p : By) : (recB p).length = 1 + (numB p.length).length + p.length + 4 := by
  unfold recB headB
  simp [fourB_len]; omega
theorem pickB_rec {p : By} (h : p.length ≤ 65536) (r : By) : pickB (recB p ++ r) = (p, (recB p).length, 0) := by
  have hrec : recB p ++ r = 93 :: (numB p.length ++ (p ++ (fourB (crc (headB p ++ p)) ++ r))) := by
    unfold recB headB; simp
  have hread : readB (numB p.length ++ (p ++ (fourB (crc (headB p ++ p)) ++ r))) = (p.length, (numB p.length).length, 0) := readB_num (by omega) _
  have hlen := recB_len p
  rw [hrec]
  unfold pickB
  dsimp only
  rw [hread]
  dsimp only
  rw [if_neg (by simp), if_neg (by simp), if_neg (by omega), if_neg (by simp [fourB_len]; omega)]
  have e1 : (93 :: (numB p.length ++ (p ++ (fourB (crc (headB p ++ p)) ++ r)))) = (headB p ++ p) ++ (fourB (crc (headB p ++ p)) ++ r) := by unfold headB; simp
  have e2 : (headB p ++ p).length = 1 + (numB p.length).length + p.length := by unfold headB; simp; omega
  rw [e1, ← e2, List.drop_left, List.take_left]
  rw [if_neg (by rw [List.take_left' (fourB_len _)]; simp)]
  have e3 : (headB p).length = 1 + (numB p.length).length := by unfold headB; simp; omega
  rw [List.append_assoc, ← e3, List.drop_left, List.take_left' rfl]
  have : (recB p).length = (headB p ++ p).length + 4 := by omega
  rw [this]
theorem rowsG_recs : ∀ (L : List By) (f : Nat), (∀ p ∈ L, p.length ≤ 65536) → L.length < f → rowsG f (L.map recB).flatten = (L, (L.map recB).flatten.length) := by
  intro L
  induction L with
  | nil =>
    intro f _ hf
    cases f with
    | zero => omega
    | succ f => rfl
  | cons p L ih =>
    intro f h hf
    cases f with
    | zero => omega
    | succ f =>
      simp only [List.length_cons] at hf
      rw [List.map_cons, List.flatten_cons]
      show (if (pickB _).2.2 ≠ 0 then _ else _) = _
      rw [pickB_rec (h p (by simp))]
      dsimp only
      rw [if_neg (by simp), List.drop_left, ih f (fun q hq => h q (by simp [hq])) (by omega)]
      simp
theorem rowsB_recs (L : List By) (h : ∀ p ∈ L, p.length ≤ 65536) : rowsB (L.map recB).flatten = (L, (L.map recB).flatten.length) := by
  unfold rowsB
  refine rowsG_recs L _ h ?_
  have : ∀ L : List By, L.length ≤ (L.map recB).flatten.length := by
    intro L
    induction L with
    | nil => simp
    | cons p L ih => rw [List.map_cons, List.flatten_cons, List.length_append, recB_len, List.length_cons]; omega
  have := this L
  omega
end Go.Proofs.YtikjckdoldiddaaGreatDoor

/- Numbers have one form. -/
namespace Go.Proofs.YtikjckdoldiddaaGreatDoor
open Go.RowKit Go.Maps
set_option linter.unusedVariables false
set_option linter.unusedSimpArgs false

theorem hiB_fuel : ∀ (f g n : Nat), n < 128 ^ f → n < 128 ^ g → hiB f n = hiB g n := by
  intro f
  induction f with
  | zero =>
    intro g n h _
    have : n = 0 := by simpa using h
    subst this
    rw [hiB_zero, hiB_zero]
  | succ f ih =>
    intro g n h1 h2
    by_cases hn : n = 0
    · subst hn; rw [hiB_zero, hiB_zero]
    cases g with
    | zero => exact absurd (show n = 0 by simpa using h2) hn
    | succ g =>
      rw [hiB_succ f n hn, hiB_succ g n hn, ih g (n / 128) (by rw [Nat.div_lt_iff_lt_mul (by omega)]; rw [Nat.pow_succ] at h1; exact h1) (by rw [Nat.div_lt_iff_lt_mul (by omega)]; rw [Nat.pow_succ] at h2; exact h2)]
theorem rdB_canon : ∀ (r : By) (pre : By) (acc n k : Nat), pre = hiB 9 acc → (0 < pre.length → 0 < acc) → acc < 128 ^ pre.length → pre.length ≤ 9 → rdB pre.length acc r = (n, k, 0) → (pre ++ r).take k = numB n ∧ k ≤ (pre ++ r).length := by
  intro r
  induction r with
  | nil => intro pre acc n k _ _ _ _ h; simp [rdB] at h
  | cons x r ih =>
    intro pre acc n k hp ha hb hl h
    have hunf : rdB pre.length acc (x :: r) = if pre.length = 0 ∧ x = 128 then (0, 0, 10) else if pre.length = 9 then (0, 0, 5) else
      if x < 128 then (acc * 128 + x.toNat % 128, pre.length + 1, 0) else rdB (pre.length + 1) (acc * 128 + x.toNat % 128) r := rfl
    rw [hunf] at h
    have p9 : (128 : Nat) ^ 9 = 9223372036854775808 := by decide
    have p8 : (128 : Nat) ^ 8 = 72057594037927936 := by decide
    have hx := x.toNat_lt
    split at h
    · cases h
    rename_i h0
    split at h
    · cases h
    rename_i h9
    have hl8 : pre.length ≤ 8 := by omega
    have hacc : acc < 128 ^ 8 := Nat.lt_of_lt_of_le hb (Nat.pow_le_pow_right (by omega) hl8)
    have hf : hiB 9 acc = hiB 8 acc := hiB_fuel 9 8 acc (by omega) hacc
    split at h
    · rename_i hlt
      rw [UInt8.lt_iff_toNat_lt] at hlt
      have hlt : x.toNat < 128 := hlt
      injection h with h1 h2
      injection h2 with h2 h3
      subst h1; subst h2
      refine ⟨?_, by simp⟩
      have e1 : (acc * 128 + x.toNat % 128) / 128 = acc := by omega
      have e2 : (acc * 128 + x.toNat % 128) % 128 = x.toNat := by omega
      unfold numB
      rw [e1, e2, ← hf, ← hp]
      rw [show pre ++ x :: r = (pre ++ [x]) ++ r by simp, List.take_left' (by simp)]
      simp
    rename_i hlt
    have hge : 128 ≤ x.toNat := by
      have : ¬ x.toNat < 128 := fun h => hlt (by rw [UInt8.lt_iff_toNat_lt]; exact h)
      omega
    have hpos : 0 < acc * 128 + x.toNat % 128 := by
      rcases Nat.eq_zero_or_pos pre.length with hz | hz
      · have hx128 : x.toNat ≠ 128 := fun e => h0 ⟨hz, UInt8.toNat_inj.1 e⟩
        omega
      have := ha hz; omega
    have e1 : (acc * 128 + x.toNat % 128) / 128 = acc := by omega
    have e2 : (acc * 128 + x.toNat % 128) % 128 + 128 = x.toNat := by omega
    have hn : pre ++ [x] = hiB 9 (acc * 128 + x.toNat % 128) := by
      rw [hiB_succ 8 _ (by omega), e1, e2, ← hf, ← hp]
      simp
    have hlen : (pre ++ [x]).length = pre.length + 1 := by simp
    have := ih (pre ++ [x]) (acc * 128 + x.toNat % 128) n k hn (fun _ => hpos) (by
      rw [hlen, Nat.pow_succ]
      omega) (by omega) (by rw [hlen]; exact h)
    rw [show pre ++ x :: r = (pre ++ [x]) ++ r by simp]
    exact this
theorem readB_canon {b : By} {n k : Nat} (h : readB b = (n, k, 0)) : b.take k = numB n ∧ k ≤ b.length := by
  have := rdB_canon b [] 0 n k rfl (fun h => by cases h) (by decide) (by decide) h
  simpa using this
end Go.Proofs.YtikjckdoldiddaaGreatDoor

/- Files and a disk as they lie in memory. -/
namespace Go.Proofs.YtikjckdoldiddaaGreatDoor
open Go.RowKit Go.Maps
set_option linter.unusedVariables false
set_option linter.unusedSimpArgs false

/-- Outside D nothing has turned. -/
structure Frm (D : Nat → Prop) (w w' : World) : Prop where
  os : w'.os = w.os
  tape : w'.tape = w.tape
  output : w'.output = w.output
  size : w.heap.size ≤ w'.heap.size
  block : ∀ k, k < w.heap.size → ¬ D k → w'.heap[k]? = w.heap[k]?
theorem Frm.refl (D : Nat → Prop) (w : World) : Frm D w w := ⟨rfl, rfl, rfl, Nat.le_refl _, fun _ _ _ => rfl⟩
theorem Frm.of_ext {w w' : World} (h : Ext w w') (D : Nat → Prop) : Frm D w w' := ⟨h.os, h.tape, h.output, h.size, fun k hk _ => h.block k hk⟩
theorem Frm.ext {w w' : World} (h : Frm (fun _ => False) w w') : Ext w w' := ⟨h.os, h.tape, h.output, h.size, fun k hk => h.block k hk id⟩
theorem Frm.of_grown {w w' : World} {b : Nat} (h : w.grownBy w' (some b)) : Frm (fun q => q = b) w w' := ⟨h.os, h.tape, h.output, h.size, fun k hk hn => h.block k hk (by intro e; injection e with e; exact hn e)⟩
theorem Frm.more {D E : Nat → Prop} {w w' : World} (h : Frm D w w') (hE : ∀ q, D q → E q) : Frm E w w' := ⟨h.os, h.tape, h.output, h.size, fun k hk hn => h.block k hk fun hd => hn (hE k hd)⟩
theorem Frm.trans {D E : Nat → Prop} {a b c : World} (h : Frm D a b) (k : Frm E b c) (hE : ∀ q, E q → D q ∨ a.heap.size ≤ q) : Frm D a c :=
  ⟨k.os.trans h.os, k.tape.trans h.tape, k.output.trans h.output, Nat.le_trans h.size k.size, fun q hq hn =>
    (k.block q (Nat.lt_of_lt_of_le hq h.size) fun he => by rcases hE q he with h1 | h1; exact hn h1; omega).trans (h.block q hq hn)⟩
theorem Frm.then_ext {D : Nat → Prop} {a b c : World} (h : Frm D a b) (k : Ext b c) : Frm D a c := h.trans (Frm.of_ext k (fun _ => False)) (fun q h => h.elim)
theorem Frm.after_ext {D : Nat → Prop} {a b c : World} (h : Ext a b) (k : Frm D b c) : Frm D a c := (Frm.of_ext h D).trans k fun q hq => .inl hq
theorem Frm.cell {D : Nat → Prop} {w w' : World} (h : Frm D w w') {p : Addr} (hp : p.block < w.heap.size) (hn : ¬ D p.block) : w'.cell? p = w.cell? p := World.cell?_of_block (w := w) (h.block p.block hp hn)
theorem Frm.frozen {D : Nat → Prop} {w w' : World} (h : Frm D w w') {p : Addr} (hp : p.block < w.heap.size) (hn : ¬ D p.block) : w'.frozen? p = w.frozen? p := World.frozen?_of_block (w := w) (h.block p.block hp hn)
/-- The blocks of a region, and those that a call has made. -/
def grow (D : Nat → Prop) (w w' : World) (q : Nat) : Prop := D q ∨ (w.heap.size ≤ q ∧ q < w'.heap.size)
theorem grow.lt {D : Nat → Prop} {w w' : World} (h : ∀ q, D q → q < w.heap.size) (hs : w.heap.size ≤ w'.heap.size) : ∀ q, grow D w w' q → q < w'.heap.size := by
  intro q hq; rcases hq with hq | hq
  · have := h q hq; omega
  exact hq.2
theorem grow.trans {D : Nat → Prop} {a b c : World} (h1 : a.heap.size ≤ b.heap.size) (h2 : b.heap.size ≤ c.heap.size) : ∀ q, grow (grow D a b) b c q → grow D a c q := by
  intro q hq
  rcases hq with (hq | hq) | hq
  · exact .inl hq
  · exact .inr ⟨hq.1, by omega⟩
  exact .inr ⟨by omega, hq.2⟩
theorem Frm.grow {D : Nat → Prop} {a b c : World} (h : Frm D a b) (k : Frm (grow D a b) b c) : Frm D a c := h.trans k fun q hq => by
  rcases hq with hq | hq
  · exact .inl hq
  exact .inr hq.1

theorem ByF.frm {F D : Nat → Prop} {w w' : World} {a : Option Addr} {n c : Nat} {d : By} (h : ByF F w a n c d) (hf : Frm D w w') (hd : ∀ q, F q → ¬ D q) : ByF F w' a n c d :=
  h.keep fun k hk hs => ⟨hk, hf.block k hs (hd k hk)⟩

/-! ### files -/
def SlV (F : Nat → Prop) (w : World) (v : Value) (b : By) : Prop := ∃ p n c, v = .slice (some p) n c ∧ ByF F w (some p) n c b
theorem SlV.keep {F G : Nat → Prop} {w w' : World} {v : Value} {b : By} (h : SlV F w v b) (hf : ∀ k, F k → k < w.heap.size → G k ∧ w'.heap[k]? = w.heap[k]?) : SlV G w' v b := by
  obtain ⟨p, n, c, h1, h2⟩ := h
  exact ⟨p, n, c, h1, h2.keep hf⟩
def TF (F : Nat → Prop) (w : World) : List (Nm × Value) → List (Nm × By) → Prop
  | [], [] => True
  | x :: H, y :: T => x.1 = y.1 ∧ SlV F w x.2 y.2 ∧ TF F w H T
  | _, _ => False
theorem TF.keep {F G : Nat → Prop} {w w' : World} (hf : ∀ k, F k → k < w.heap.size → G k ∧ w'.heap[k]? = w.heap[k]?) : ∀ {H : List (Nm × Value)} {T : Tab}, TF F w H T → TF G w' H T := by
  intro H
  induction H with
  | nil => intro T h; cases T with
    | nil => trivial
    | cons y T => exact h.elim
  | cons x H ih => intro T h; cases T with
    | nil => exact h.elim
    | cons y T => exact ⟨h.1, h.2.1.keep hf, ih h.2.2⟩
theorem TF.len {F : Nat → Prop} {w : World} : ∀ {H : List (Nm × Value)} {T : Tab}, TF F w H T → H.length = T.length := by
  intro H
  induction H with
  | nil => intro T h; cases T with
    | nil => rfl
    | cons y T => exact h.elim
  | cons x H ih => intro T h; cases T with
    | nil => exact h.elim
    | cons y T => simp [ih h.2.2]
theorem TF.names {F : Nat → Prop} {w : World} : ∀ {H : List (Nm × Value)} {T : Tab}, TF F w H T → H.map Prod.fst = T.map Prod.fst := by
  intro H
  induction H with
  | nil => intro T h; cases T with
    | nil => rfl
    | cons y T => exact h.elim
  | cons x H ih => intro T h; cases T with
    | nil => exact h.elim
    | cons y T => simp [ih h.2.2, h.1]
theorem TF.del {F : Nat → Prop} {w : World} (n : Nm) : ∀ {H : List (Nm × Value)} {T : Tab}, TF F w H T → TF F w (tDel H n) (tDel T n) := by
  intro H
  induction H with
  | nil => intro T h; cases T with
    | nil => trivial
    | cons y T => exact h.elim
  | cons x H ih => intro T h; cases T with
    | nil => exact h.elim
    | cons y T =>
      obtain ⟨h1, h2, h3⟩ := h
      have := ih h3
      unfold tDel at *
      rw [List.filter_cons, List.filter_cons, h1]
      split
      · exact ⟨h1, h2, this⟩
      exact this
theorem TF.ins {F : Nat → Prop} {w : World} (n : Nm) {v : Value} {b : By} (hv : SlV F w v b) : ∀ {H : List (Nm × Value)} {T : Tab}, TF F w H T → TF F w (tIns (n, v) H) (tIns (n, b) T) := by
  intro H
  induction H with
  | nil => intro T h; cases T with
    | nil => exact ⟨rfl, hv, trivial⟩
    | cons y T => exact h.elim
  | cons x H ih => intro T h; cases T with
    | nil => exact h.elim
    | cons y T =>
      obtain ⟨h1, h2, h3⟩ := h
      unfold tIns
      rw [h1]
      split
      · exact ⟨rfl, hv, h1, h2, h3⟩
      exact ⟨h1, h2, ih h3⟩
theorem TF.put {F : Nat → Prop} {w : World} {H : List (Nm × Value)} {T : Tab} (h : TF F w H T) (n : Nm) {v : Value} {b : By} (hv : SlV F w v b) : TF F w (tPut H n v) (tPut T n b) := (h.del n).ins n hv
theorem TF.get {F : Nat → Prop} {w : World} (n : Nm) : ∀ {H : List (Nm × Value)} {T : Tab}, TF F w H T → (tGet H n = none ∧ tGet T n = none) ∨ ∃ v b, tGet H n = some v ∧ tGet T n = some b ∧ SlV F w v b := by
  intro H
  induction H with
  | nil => intro T h; cases T with
    | nil => exact .inl ⟨rfl, rfl⟩
    | cons y T => exact h.elim
  | cons x H ih => intro T h; cases T with
    | nil => exact h.elim
    | cons y T =>
      obtain ⟨h1, h2, h3⟩ := h
      have := ih h3
      unfold tGet at *
      rw [List.find?_cons, List.find?_cons, h1]
      cases hn : y.1 == n with
      | true => exact .inr ⟨x.2, y.2, rfl, rfl, h2⟩
      | false => exact this

/-- Files in a map. -/
def TabAt (F : Nat → Prop) (w : World) (b : Nat) (T : Tab) : Prop := ∃ H, w.ownsMap Tryz.prog 9 Rh b H.length (dat H) ∧ TF F w H T
theorem own_tight {w : World} {b m : Nat} {H : List (Nm × Value)} (h : w.ownsMap Tryz.prog 9 Rh b m (dat H)) : w.ownsMap Tryz.prog 9 Rh b H.length (dat H) := by
  obtain ⟨es, cl, h1, h2, h3, h4⟩ := h
  refine ⟨es, cl, h1, h2, ?_, h4⟩
  have e := congrArg Maps.size h4
  rw [dat_size, Maps.size_eq, length_read] at e
  omega
theorem TabAt.keep {F G : Nat → Prop} {w w' : World} {b : Nat} {T : Tab} (h : TabAt F w b T) (hb : w'.heap[b]? = w.heap[b]?) (hf : ∀ k, F k → k < w.heap.size → G k ∧ w'.heap[k]? = w.heap[k]?) : TabAt G w' b T := by
  obtain ⟨H, ⟨es, cl, h1, h2, h3, h4⟩, h5⟩ := h
  exact ⟨H, ⟨es, cl, hb.trans h1, h2, h3, h4⟩, h5.keep hf⟩
theorem TabAt.lt {F : Nat → Prop} {w : World} {b : Nat} {T : Tab} (h : TabAt F w b T) : b < w.heap.size := by
  obtain ⟨H, h1, -⟩ := h
  exact h1.lt
theorem TabAt.below {F : Nat → Prop} {w w' : World} {b : Nat} {T : Tab} (h : TabAt F w b T) (hb : Ext w w') : TabAt F w' b T := h.keep (hb.block b h.lt) fun k hk hs => ⟨hk, hb.block k hs⟩
theorem keyS (n : Nm) (h : n.length ≤ maxLen) : keyOf Tryz.prog 9 (.string ⟨n.toArray⟩) = some (.string n) := by
  have := Go.WideMaps.keyOf_string_mk (P := Tryz.prog) Tryz.underlying9 (s := ⟨n.toArray⟩) (by simpa [ByteArray.size] using h)
  simpa using this
theorem lawS : Keyed Tryz.prog 9 := string_keyed Tryz.underlying9
theorem zeroS (w : World) : (zeroValue 37).run Tryz.prog w = .ok (.slice none 0 0) w := by kernel_rfl
/-- What t[n] is. -/
theorem TabAt.look {F : Nat → Prop} {w : World} {b : Nat} {T : Tab} (h : TabAt F w b T) (n : Nm) (hn : n.length ≤ maxLen) :
    ∃ v, (Instr.lookup 73 (.map (some b)) (.string ⟨n.toArray⟩) false).run Tryz.prog w = .ok v w ∧ ((tGet T n = none ∧ v = .slice none 0 0) ∨ ∃ d, tGet T n = some d ∧ SlV F w v d) := by
  obtain ⟨H, h1, h2⟩ := h
  obtain ⟨v, ps, hrun, hv⟩ := h1.lookup lawS Tryz.underlying73 (zeroS w) (zd := .held (.slice none 0 0)) (zp := []) rfl (keyS n hn)
  rw [dat_at] at hv
  have hv' : v = (tGet H n).getD (.slice none 0 0) := by
    unfold Rh at hv
    simp only [Option.some.injEq, Prod.mk.injEq, DataW.held.injEq] at hv
    exact hv.1
  refine ⟨v, hrun, ?_⟩
  rcases h2.get n with ⟨e1, e2⟩ | ⟨v', d, e1, e2, e3⟩
  · exact .inl ⟨e2, by rw [hv', e1]; rfl⟩
  exact .inr ⟨d, e2, by rw [hv', e1]; exact e3⟩

/-! ### acts -/
structure AcH where
  f : Value
  a : Option Addr
  n : Nat
  c : Nat
def AcH.cells (h : AcH) : List Value := [h.f, .slice h.a h.n h.c, .int .i64 h.n]
def rawA (H : List AcH) : List Value := H.flatMap AcH.cells
theorem rawA_append (H K : List AcH) : rawA (H ++ K) = rawA H ++ rawA K := by simp [rawA]
theorem rawA_get (H : List AcH) : ∀ (k j : Nat), j < 3 → (rawA H)[k * 3 + j]? = (H[k]?).bind fun h => h.cells[j]? := by
  induction H with
  | nil => intro k j _; rfl
  | cons h t ih =>
    intro k j hj
    show (h.cells ++ rawA t)[k * 3 + j]? = _
    cases k with
    | zero =>
      rw [List.getElem?_append_left (by show _ < 3; omega)]
      simp
    | succ k =>
      rw [List.getElem?_append_right (by show 3 ≤ _; omega)]
      have e : (k + 1) * 3 + j - h.cells.length = k * 3 + j := by show (k + 1) * 3 + j - 3 = _; omega
      rw [e, ih k j hj]
      rfl
/-- An act's function, as a value. -/
def ActV (F : Nat → Prop) (w : World) (v : Value) : ActS → Prop
  | .write n k _ => ∃ p q, v = .func (.func 121) #[] #[.pointer (some ⟨p, 0, none⟩), .pointer (some ⟨q, 0, none⟩)] ∧ F p ∧ F q ∧ w.cell? ⟨p, 0, none⟩ = some (.string ⟨n.toArray⟩) ∧ w.cell? ⟨q, 0, none⟩ = some (.int .i64 (k : Int))
  | .trim n k => ∃ p q, v = .func (.func 113) #[] #[.pointer (some ⟨p, 0, none⟩), .pointer (some ⟨q, 0, none⟩)] ∧ F p ∧ F q ∧ w.cell? ⟨p, 0, none⟩ = some (.string ⟨n.toArray⟩) ∧ w.cell? ⟨q, 0, none⟩ = some (.int .i64 (k : Int))
  | .move o n => False
  | .drop n => ∃ p, v = .func (.func 112) #[] #[.pointer (some ⟨p, 0, none⟩)] ∧ F p ∧ w.cell? ⟨p, 0, none⟩ = some (.string ⟨n.toArray⟩)
theorem ActV.keep {F G : Nat → Prop} {w w' : World} {v : Value} {a : ActS} (h : ActV F w v a) (hf : ∀ k, F k → k < w.heap.size → G k ∧ w'.heap[k]? = w.heap[k]?) : ActV G w' v a := by
  have two : ∀ {p q : Nat} {x y : Value}, F p → F q → w.cell? ⟨p, 0, none⟩ = some x → w.cell? ⟨q, 0, none⟩ = some y → G p ∧ G q ∧ w'.cell? ⟨p, 0, none⟩ = some x ∧ w'.cell? ⟨q, 0, none⟩ = some y := by
    intro p q x y h2 h3 h4 h5
    have l1 := World.block_lt_of_cell? w _ h4
    have l2 := World.block_lt_of_cell? w _ h5
    exact ⟨(hf p h2 l1).1, (hf q h3 l2).1, (World.cell?_of_block (w := w) (hf p h2 l1).2).trans h4, (World.cell?_of_block (w := w) (hf q h3 l2).2).trans h5⟩
  cases a with
  | write n k b => obtain ⟨p, q, h1, h2, h3, h4, h5⟩ := h; exact ⟨p, q, h1, two h2 h3 h4 h5⟩
  | trim n k =>
    obtain ⟨p, q, h1, h2, h3, h4, h5⟩ := h; exact ⟨p, q, h1, two h2 h3 h4 h5⟩
  | move o n =>
    exact h.elim
  | drop n =>
    obtain ⟨p, h1, h2, h3⟩ := h
    have l1 := World.block_lt_of_cell? w _ h3
    exact ⟨p, h1, (hf p h2 l1).1, (World.cell?_of_block (w := w) (hf p h2 l1).2).trans h3⟩
def AcF (F : Nat → Prop) (w : World) : List AcH → List ActS → Prop
  | [], [] => True
  | h :: H, a :: l => (ActV F w h.f a ∧ ByF F w h.a h.n h.c a.data) ∧ AcF F w H l
  | _, _ => False
theorem AcF.keep {F G : Nat → Prop} {w w' : World} (hf : ∀ k, F k → k < w.heap.size → G k ∧ w'.heap[k]? = w.heap[k]?) : ∀ {H : List AcH} {l : List ActS}, AcF F w H l → AcF G w' H l := by
  intro H
  induction H with
  | nil => intro l h; cases l with
    | nil => trivial
    | cons y l => exact h.elim
  | cons x H ih => intro l h; cases l with
    | nil => exact h.elim
    | cons y l => exact ⟨⟨h.1.1.keep hf, h.1.2.keep hf⟩, ih h.2⟩
theorem AcF.len {F : Nat → Prop} {w : World} : ∀ {H : List AcH} {l : List ActS}, AcF F w H l → H.length = l.length := by
  intro H
  induction H with
  | nil => intro l h; cases l with
    | nil => rfl
    | cons y l => exact h.elim
  | cons x H ih => intro l h; cases l with
    | nil => exact h.elim
    | cons y l => simp [ih h.2]
theorem AcF.snoc {F : Nat → Prop} {w : World} {x : AcH} {a : ActS} (hx : ActV F w x.f a) (hd : ByF F w x.a x.n x.c a.data) : ∀ {H : List AcH} {l : List ActS}, AcF F w H l → AcF F w (H ++ [x]) (l ++ [a]) := by
  intro H
  induction H with
  | nil => intro l h; cases l with
    | nil => exact ⟨⟨hx, hd⟩, trivial⟩
    | cons y l => exact h.elim
  | cons y H ih => intro l h; cases l with
    | nil => exact h.elim
    | cons z l => exact ⟨h.1, ih h.2⟩
theorem AcF.at_ {F : Nat → Prop} {w : World} : ∀ {H : List AcH} {l : List ActS}, AcF F w H l → ∀ k, (h1 : k < H.length) → (h2 : k < l.length) → ActV F w H[k].f l[k] ∧ ByF F w H[k].a H[k].n H[k].c l[k].data := by
  intro H
  induction H with
  | nil => intro l h k h1; simp at h1
  | cons y H ih => intro l h k h1 h2; cases l with
    | nil => exact h.elim
    | cons z l => cases k with
      | zero => exact h.1
      | succ k => exact ih h.2 k (by simpa using h1) (by simpa using h2)

/-! ### a disk -/
/-- The blocks of a disk that are never written again. -/
def Imm (D : Nat → Prop) (g ms ml : Nat) (av : Value) (q : Nat) : Prop := D q ∧ q ≠ g ∧ q ≠ ms ∧ q ≠ ml ∧ some q ≠ av.ownBlock
structure DiskIn (D : Nat → Prop) (w : World) (g : Nat) (s : DS) (ms ml : Nat) (av : Value) (H : List AcH) : Prop where
  obj : w.heap[g]? = some (.cells #[.bool s.off, .int .i64 s.left, .int .i64 s.keep, .int .i64 s.tear, .int .i64 s.room, .map (some ms), .map (some ml), av] 76 (0, 0))
  seen : TabAt (Imm D g ms ml av) w ms s.seen
  last : TabAt (Imm D g ms ml av) w ml s.last
  row : w.ownsRow 0 117 3 av H.length (rawA H)
  acts : AcF (Imm D g ms ml av) w H s.acts
  dg : D g
  dms : D ms
  dml : D ml
  dav : ∀ b, av.ownBlock = some b → D b
  ne : ms ≠ ml
  gav : some g ≠ av.ownBlock
  lt : ∀ q, D q → q < w.heap.size
def DiskAt (D : Nat → Prop) (w : World) (g : Nat) (s : DS) : Prop := ∃ ms ml av H, DiskIn D w g s ms ml av H
theorem DiskIn.gms {D : Nat → Prop} {w : World} {g : Nat} {s : DS} {ms ml : Nat} {av : Value} {H : List AcH} (h : DiskIn D w g s ms ml av H) : g ≠ ms ∧ g ≠ ml := by
  obtain ⟨Hs, ⟨es, cl, h1, -⟩, -⟩ := h.seen
  obtain ⟨Hl, ⟨es', cl', h2, -⟩, -⟩ := h.last
  have h0 := h.obj
  refine ⟨fun e => ?_, fun e => ?_⟩
  · subst e; rw [h1] at h0; cases h0
  subst e; rw [h2] at h0; cases h0
theorem own_cells {w : World} {B : Nat} {e : TypeId} {sz : Nat} {v : Value} {n : Nat} {xs : List Value} (h : w.ownsRow B e sz v n xs) {q : Nat} (hq : v.ownBlock = some q) : q < w.heap.size ∧ ∃ cur t z, w.heap[q]? = some (.cells cur t z) := by
  rcases h.2 with ⟨rfl, -⟩ | ⟨g, cap, cur, rfl, hb, hg, -⟩
  · cases hq
  cases hq
  exact ⟨(Array.getElem?_eq_some_iff.1 hg).1, _, _, _, hg⟩
theorem DiskIn.avne {D : Nat → Prop} {w : World} {g : Nat} {s : DS} {ms ml : Nat} {av : Value} {H : List AcH} (h : DiskIn D w g s ms ml av H) : some ms ≠ av.ownBlock ∧ some ml ≠ av.ownBlock := by
  obtain ⟨Hs, ⟨es, cl, h1, -⟩, -⟩ := h.seen
  obtain ⟨Hl, ⟨es', cl', h2, -⟩, -⟩ := h.last
  refine ⟨fun e => ?_, fun e => ?_⟩
  · obtain ⟨-, cur, t, z, hc⟩ := own_cells h.row e.symm
    rw [h1] at hc; cases hc
  obtain ⟨-, cur, t, z, hc⟩ := own_cells h.row e.symm
  rw [h2] at hc; cases hc
theorem own_keep {w w' : World} {B : Nat} {e : TypeId} {sz : Nat} {v : Value} {n : Nat} {xs : List Value} (h : w.ownsRow B e sz v n xs) (hb : ∀ q, v.ownBlock = some q → w'.heap[q]? = w.heap[q]?) : w'.ownsRow B e sz v n xs := by
  refine ⟨h.1, ?_⟩
  rcases h.2 with h1 | ⟨g, cap, cur, rfl, h2, h3, h4⟩
  · exact .inl h1
  exact .inr ⟨g, cap, cur, rfl, h2, (hb g rfl).trans h3, h4⟩
theorem DiskIn.keep {D E : Nat → Prop} {w w' : World} {g : Nat} {s : DS} {ms ml : Nat} {av : Value} {H : List AcH} (h : DiskIn D w g s ms ml av H) (hD : ∀ q, D q → E q ∧ w'.heap[q]? = w.heap[q]?) (hE : ∀ q, E q → q < w'.heap.size) : DiskIn E w' g s ms ml av H := by
  have hI : ∀ k, Imm D g ms ml av k → k < w.heap.size → Imm E g ms ml av k ∧ w'.heap[k]? = w.heap[k]? := fun k hk _ => ⟨⟨(hD k hk.1).1, hk.2⟩, (hD k hk.1).2⟩
  exact ⟨(hD g h.dg).2.trans h.obj, h.seen.keep (hD ms h.dms).2 hI, h.last.keep (hD ml h.dml).2 hI, own_keep h.row fun q hq => (hD q (h.dav q hq)).2, h.acts.keep hI, (hD g h.dg).1, (hD ms h.dms).1, (hD ml h.dml).1,
    fun b hb => (hD b (h.dav b hb)).1, h.ne, h.gav, hE⟩
theorem DiskAt.frm {D E : Nat → Prop} {w w' : World} {g : Nat} {s : DS} (h : DiskAt D w g s) (hf : Frm E w w') (hE : ∀ q, D q → ¬ E q) : DiskAt D w' g s := by
  obtain ⟨ms, ml, av, H, h⟩ := h
  exact ⟨ms, ml, av, H, h.keep (fun q hq => ⟨hq, hf.block q (h.lt q hq) (hE q hq)⟩) fun q hq => Nat.lt_of_lt_of_le (h.lt q hq) hf.size⟩
theorem DiskAt.below {D : Nat → Prop} {w w' : World} {g : Nat} {s : DS} (h : DiskAt D w g s) (hf : Ext w w') : DiskAt D w' g s := h.frm (Frm.of_ext hf (fun _ => False)) fun _ _ h => h
theorem DiskAt.more {D E : Nat → Prop} {w : World} {g : Nat} {s : DS} (h : DiskAt D w g s) (hE : ∀ q, D q → E q) (hl : ∀ q, E q → q < w.heap.size) : DiskAt E w g s := by
  obtain ⟨ms, ml, av, H, h⟩ := h
  exact ⟨ms, ml, av, H, h.keep (fun q hq => ⟨hE q hq, rfl⟩) hl⟩
theorem DiskAt.lt {D : Nat → Prop} {w : World} {g : Nat} {s : DS} (h : DiskAt D w g s) : ∀ q, D q → q < w.heap.size := by
  obtain ⟨ms, ml, av, H, h⟩ := h
  exact h.lt
/-- What a call leaves that is the disk's own. -/
theorem DiskAt.grown {D : Nat → Prop} {w w1 w2 : World} {g : Nat} {s : DS} (h : DiskAt (grow D w w1) w1 g s) (h2 : Ext w1 w2) (h1 : w.heap.size ≤ w1.heap.size) (hl : ∀ q, D q → q < w.heap.size) : DiskAt (grow D w w2) w2 g s :=
  (h.below h2).more (fun q hq => by rcases hq with hq | hq; exact .inl hq; exact .inr ⟨hq.1, Nat.lt_of_lt_of_le hq.2 h2.size⟩) (grow.lt hl (Nat.le_trans h1 h2.size))
end Go.Proofs.YtikjckdoldiddaaGreatDoor
