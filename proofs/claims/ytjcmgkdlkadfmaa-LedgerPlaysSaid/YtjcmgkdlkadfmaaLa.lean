/- The words of the ledger's proofs: bytes and entries as they lie in memory, and what keeps them. No program in it. -/
import Derived.WalkKit
import Derived.WalkSpells
import Derived.WalkLawsBesides
import Derived.Deep.QuietTactic
import Derived.BigQuiet
import Derived.Deep.Draws
import Derived.Laws.AppendOwnNone
namespace Go.Proofs.Ytjcmgkdlkadfmaa
open Go.RowKit
set_option linter.unusedVariables false
set_option linter.unusedSimpArgs false

theorem hid {p : Prop} (h : p) : Hid p := h

/-- An entry, as a reader sees it. -/
structure Ent where
  i : Int
  t : Int
  d : List UInt8

/-- A number of int's kind. -/
def In64 (x : Int) : Prop := -9223372036854775808 ≤ x ∧ x ≤ 9223372036854775807

/-- Bytes that lie in memory, in blocks of which F holds. -/
def ByF (F : Nat → Prop) (w : World) (a : Option Addr) (n c : Nat) (d : List UInt8) : Prop :=
  n = d.length ∧ n ≤ c ∧ (c ≤ maxLen ∧ n ≤ 140737488351232) ∧ (a = none → c = 0) ∧
  ∀ p, a = some p → (0 < c → p.spot = none) ∧ ∀ k, (h : k < d.length) → F p.block ∧ w.cell? ⟨p.block, p.off + k, none⟩ = some (.int .u8 (d[k].toNat : Int))

/-- One entry's three cells, at a block's place. -/
def EnF (F : Nat → Prop) (w : World) (b o : Nat) (e : Ent) : Prop :=
  In64 e.i ∧ In64 e.t ∧ w.cell? ⟨b, o, none⟩ = some (.int .i64 e.i) ∧ w.cell? ⟨b, o + 1, none⟩ = some (.int .i64 e.t) ∧
  ∃ a n c, w.cell? ⟨b, o + 2, none⟩ = some (.slice a n c) ∧ ByF F w a n c e.d

/-- Entries that lie in memory. -/
def EsF (F : Nat → Prop) (w : World) (a : Option Addr) (n c : Nat) (l : List Ent) : Prop :=
  n = l.length ∧ n ≤ c ∧ (c ≤ maxLen ∧ n * 40 ≤ 140737488351232) ∧ (a = none → c = 0) ∧
  ∀ p, a = some p → (0 < c → p.spot = none) ∧ ∀ k, (h : k < l.length) → F p.block ∧ EnF F w p.block (p.off + k * 3) l[k]

section
variable {F G : Nat → Prop} {w w' : World} {a : Option Addr} {n c : Nat} {d : List UInt8} {l : List Ent}
theorem some_lt {w : World} {k : Nat} (h : w.heap[k]?.isSome) : k < w.heap.size := by
  rcases Nat.lt_or_ge k w.heap.size with hlt | hge
  · exact hlt
  · rw [Array.getElem?_eq_none hge] at h; cases h
theorem ByF.keep (h : ByF F w a n c d) (hf : ∀ k, F k → k < w.heap.size → G k ∧ w'.heap[k]? = w.heap[k]?) : ByF G w' a n c d := by
  obtain ⟨h1, h2, h3, h4, h5⟩ := h
  refine ⟨h1, h2, h3, h4, fun p hp => ?_⟩
  obtain ⟨h6, h8⟩ := h5 p hp
  refine ⟨h6, fun k hk => ?_⟩
  obtain ⟨h7, h9⟩ := h8 k hk
  have hlt := World.block_lt_of_cell? w _ h9
  obtain ⟨hg, he⟩ := hf p.block h7 hlt
  exact ⟨hg, (World.cell?_of_block (w := w) (a := ⟨p.block, p.off + k, none⟩) he).trans h9⟩
theorem EnF.keep {b o : Nat} {e : Ent} (h : EnF F w b o e) (hb : w'.heap[b]? = w.heap[b]?) (hf : ∀ k, F k → k < w.heap.size → G k ∧ w'.heap[k]? = w.heap[k]?) : EnF G w' b o e := by
  obtain ⟨h1, h2, h3, h4, a, n, c, h5, h6⟩ := h
  exact ⟨h1, h2, (World.cell?_of_block (w := w) hb).trans h3, (World.cell?_of_block (w := w) hb).trans h4, a, n, c, (World.cell?_of_block (w := w) hb).trans h5, h6.keep hf⟩
theorem EnF.lt {b o : Nat} {e : Ent} (h : EnF F w b o e) : b < w.heap.size := World.block_lt_of_cell? w _ h.2.2.1
theorem EsF.keep (h : EsF F w a n c l) (hf : ∀ k, F k → k < w.heap.size → G k ∧ w'.heap[k]? = w.heap[k]?) : EsF G w' a n c l := by
  obtain ⟨h1, h2, h3, h4, h5⟩ := h
  refine ⟨h1, h2, h3, h4, fun p hp => ?_⟩
  obtain ⟨h6, h8⟩ := h5 p hp
  refine ⟨h6, fun k hk => ?_⟩
  obtain ⟨h7, h9⟩ := h8 k hk
  obtain ⟨hg, he⟩ := hf p.block h7 h9.lt
  exact ⟨hg, h9.keep he hf⟩
theorem ByF.below (h : ByF F w a n c d) (hb : Below w.heap.size w w') : ByF F w' a n c d := h.keep fun k hk hs => ⟨hk, hb.block k hs⟩
theorem EsF.below (h : EsF F w a n c l) (hb : Below w.heap.size w w') : EsF F w' a n c l := h.keep fun k hk hs => ⟨hk, hb.block k hs⟩
theorem ByF.only {g : Nat} (h : ByF F w a n c d) (hb : w.grownBy w' (some g)) (hg : ¬ F g) : ByF F w' a n c d :=
  h.keep fun k hk hs => ⟨hk, hb.block k hs (by intro e; injection e with e; subst e; exact hg hk)⟩
theorem EsF.only {g : Nat} (h : EsF F w a n c l) (hb : w.grownBy w' (some g)) (hg : ¬ F g) : EsF F w' a n c l :=
  h.keep fun k hk hs => ⟨hk, hb.block k hs (by intro e; injection e with e; subst e; exact hg hk)⟩
theorem ByF.more (h : ByF F w a n c d) (hg : ∀ k, F k → G k) : ByF G w a n c d := h.keep fun k hk _ => ⟨hg k hk, rfl⟩
theorem EsF.more (h : EsF F w a n c l) (hg : ∀ k, F k → G k) : EsF G w a n c l := h.keep fun k hk _ => ⟨hg k hk, rfl⟩
theorem ByF.lt (h : ByF F w a n c d) : ByF (fun b => F b ∧ b < w.heap.size) w a n c d := h.keep fun k hk hs => ⟨⟨hk, hs⟩, rfl⟩
theorem EsF.lt (h : EsF F w a n c l) : EsF (fun b => F b ∧ b < w.heap.size) w a n c l := h.keep fun k hk hs => ⟨⟨hk, hs⟩, rfl⟩
theorem EnF.only {b o : Nat} {e : Ent} {g : Nat} (h : EnF F w b o e) (hb : w.grownBy w' (some g)) (hne : b ≠ g) (hg : ¬ F g) : EnF F w' b o e :=
  h.keep (hb.block b h.lt (by intro e; injection e with e; exact hne e)) fun k hk hs => ⟨hk, hb.block k hs (by intro e; injection e with e; subst e; exact hg hk)⟩
theorem EnF.below {b o : Nat} {e : Ent} (h : EnF F w b o e) (hb : Below w.heap.size w w') : EnF F w' b o e := h.keep (hb.block b h.lt) fun k hk hs => ⟨hk, hb.block k hs⟩
theorem EnF.more {b o : Nat} {e : Ent} (h : EnF F w b o e) (hg : ∀ k, F k → G k) : EnF G w b o e := h.keep rfl fun k hk _ => ⟨hg k hk, rfl⟩
theorem ByF.nil_ (F : Nat → Prop) (w : World) : ByF F w none 0 0 [] := ⟨rfl, by simp, by simp, fun _ => rfl, fun p hp => by cases hp⟩
theorem EsF.nil_ (F : Nat → Prop) (w : World) : EsF F w none 0 0 [] := ⟨rfl, by simp, by simp, fun _ => rfl, fun p hp => by cases hp⟩
/-- Where there is one, there is an address. -/
theorem EsF.at_ (h : EsF F w a n c l) {k : Nat} (hk : k < n) : ∃ b o, a = some ⟨b, o, none⟩ ∧ F b ∧ b < w.heap.size ∧ ∃ hl : k < l.length, EnF F w b (o + k * 3) l[k] := by
  obtain ⟨rfl, h2, h3, h4, h5⟩ := h
  cases a with
  | none => have := h4 rfl; omega
  | some p =>
    obtain ⟨h6, h8⟩ := h5 p rfl
    obtain ⟨pb, po, ps⟩ := p
    have h6 : ps = none := h6 (by omega)
    subst h6
    have he := h8 k hk
    exact ⟨pb, po, rfl, he.1, he.2.lt, hk, he.2⟩
theorem ByF.at_ (h : ByF F w a n c d) {k : Nat} (hk : k < n) : ∃ b o, a = some ⟨b, o, none⟩ ∧ F b ∧ b < w.heap.size ∧ ∃ hl : k < d.length, w.cell? ⟨b, o + k, none⟩ = some (.int .u8 (d[k].toNat : Int)) := by
  obtain ⟨rfl, h2, h3, h4, h5⟩ := h
  cases a with
  | none => have := h4 rfl; omega
  | some p =>
    obtain ⟨h6, h8⟩ := h5 p rfl
    obtain ⟨pb, po, ps⟩ := p
    have h6 : ps = none := h6 (by omega)
    subst h6
    have he := h8 k hk
    exact ⟨pb, po, rfl, he.1, World.block_lt_of_cell? w _ he.2, hk, he.2⟩
end

/-- All old blocks are as they were. -/
abbrev Ext (w w' : World) : Prop := Below w.heap.size w w'
theorem Ext.trans' {a b c : World} (h : Ext a b) (k : Ext b c) : Ext a c := h.trans (k.mono h.size)
theorem below_drewN {B : Nat} {a w : World} (h : Below B a w) (n : Nat) : Below B a (w.drewN n) := ⟨h.os, h.tape, h.output, h.size, h.block⟩
theorem grown_below {a w : World} (h : Ext a w) (row : Option Nat) : a.grownBy w row := ⟨h.os, h.tape, h.output, h.size, fun i hi _ => h.block i hi⟩

/-- A row of cells that lies at an address. -/
def RowAt (w : World) (a : Option Addr) (n size : Nat) (xs : List Value) : Prop :=
  xs.length = n * size ∧ (a = none → n = 0) ∧ ∀ p, a = some p → ∀ j u, xs[j]? = some u → w.cell? (p.add j) = some u

theorem RowAt.ext {w w' : World} {a : Option Addr} {n size : Nat} {xs : List Value} (h : RowAt w a n size xs) (hb : Ext w w') : RowAt w' a n size xs :=
  ⟨h.1, h.2.1, fun p hp j u hu => by
    have h1 := h.2.2 p hp j u hu
    exact (hb.cell (World.block_lt_of_cell? w _ h1)).trans h1⟩
theorem ext_alloc (w : World) (o : Obj) : Ext w (w.alloc o) := (Below.refl _ _).alloc (Nat.le_refl _) o

/-- What append is asked for: a source that may be nil. -/
theorem wpList_append_row {P : Program} {w : World} {ops : Array Oper} {rest : List Oper} {o : Oper} {a : Act} {Q : Exit → Act → World → Prop} (hgd : o.guard = none) (s x : Operand) (t : TypeId)
    (ho : o.op = .call { callee := .builtin .append, args := #[s, x], argTypes := #[t, t] })
    (base : Nat) (e : TypeId) (z : Value) (size bytes : Nat) (ht : P.underlying t = some (.slice e)) (hi : (P.info? e).map (fun i => (i.zero, i.size, i.bytes)) = some (some z, size, bytes))
    (hzs : z.cells.size = size) (hsz : 0 < size)
    (v : Value) (n : Nat) (xs : List Value) (hs : a.eval s = v) (hown : w.ownsRow base e size v n xs)
    (A : Option Addr) (m c : Nat) (news : List Value) (hx : a.eval x = .slice A m c) (hc : A = none → c = 0) (hr : RowAt w A m size news) (h1 : ∀ u ∈ news, u.oneCell' = true)
    (h63 : n + m ≤ maxLen) (hbytes : (n + m) * bytes ≤ 140737488355328) (hbase : base ≤ w.heap.size)
    (h : ∀ v' w', w'.ownsRow base e size v' (n + m) (xs ++ news) → w.grownBy w' v.ownBlock → wpList P ops Q rest (a.put o.dst v') w') : wpList P ops Q (o :: rest) a w := by
  obtain ⟨i, hi, hz, hz1, hz2⟩ := info_parts hi
  cases A with
  | none =>
    have hm := hr.2.1 rfl
    have hc := hc rfl
    subst hm; subst hc
    have hn : news = [] := List.eq_nil_of_length_eq_zero (by simpa using hr.1)
    subst hn
    exact wpList_append_own_none hgd s x t ho base e i size ht hi v n xs hs hown hx (h v w (by simpa using hown) (World.grownBy.refl w _))
  | some ad =>
    exact wpList_append_own w hgd s x t ho base e i z size bytes ht hi hz hz1 hz2 hzs hsz v n xs hs hown ad m c news hx hr.1 (hr.2.2 ad rfl) h1 h63 hbytes hbase
      (fun v' w' h2 h3 _ => h v' w' h2 h3)

/-- An entry's three cells. -/
structure EH where
  i : Int
  t : Int
  a : Option Addr
  n : Nat
  c : Nat
def EH.cells (h : EH) : List Value := [.int .i64 h.i, .int .i64 h.t, .slice h.a h.n h.c]
def rawH (H : List EH) : List Value := H.flatMap EH.cells
theorem rawH_length (H : List EH) : (rawH H).length = H.length * 3 := by
  induction H with
  | nil => rfl
  | cons h t ih => show (h.cells ++ rawH t).length = _; rw [List.length_append, ih, List.length_cons]; show 3 + _ = _; omega
theorem rawH_get (H : List EH) : ∀ (k j : Nat), j < 3 → (rawH H)[k * 3 + j]? = (H[k]?).bind fun h => h.cells[j]? := by
  induction H with
  | nil => intro k j _; rfl
  | cons h t ih =>
    intro k j hj
    show (h.cells ++ rawH t)[k * 3 + j]? = _
    cases k with
    | zero =>
      rw [List.getElem?_append_left (by show _ < 3; omega)]
      simp
    | succ k =>
      rw [List.getElem?_append_right (by show 3 ≤ _; omega)]
      have e : (k + 1) * 3 + j - h.cells.length = k * 3 + j := by show (k + 1) * 3 + j - 3 = _; omega
      rw [e, ih k j hj]
      rfl
theorem rawH_mem (H : List EH) : ∀ u ∈ rawH H, u.oneCell' = true := by
  intro u hu
  obtain ⟨h, _, hm⟩ := List.mem_flatMap.1 hu
  simp only [EH.cells, List.mem_cons, List.not_mem_nil, or_false] at hm
  rcases hm with rfl | rfl | rfl <;> rfl

theorem add_lit (b o k : Nat) : (⟨b, o, none⟩ : Addr).add k = ⟨b, o + k, none⟩ := by
  unfold Addr.add; split <;> simp_all

/-- Entries as rows of cells. -/
theorem EsF.raw {F : Nat → Prop} {w : World} {a : Option Addr} {n c : Nat} {l : List Ent} (h : EsF F w a n c l) :
    ∃ H : List EH, H.length = l.length ∧ RowAt w a n 3 (rawH H) ∧ ∀ k (h1 : k < H.length) (h2 : k < l.length), H[k].i = l[k].i ∧ H[k].t = l[k].t ∧ ByF F w H[k].a H[k].n H[k].c l[k].d := by
  obtain ⟨rfl, h2, h3, h4, h5⟩ := h
  cases a with
  | none =>
    have hl : l = [] := List.eq_nil_of_length_eq_zero (by have := h4 rfl; omega)
    subst hl
    exact ⟨[], rfl, ⟨rfl, fun _ => rfl, fun p hp => by cases hp⟩, fun k h1 => by simp at h1⟩
  | some p =>
    by_cases hz : l.length = 0
    · have hl : l = [] := List.eq_nil_of_length_eq_zero hz
      subst hl
      exact ⟨[], rfl, ⟨rfl, fun _ => rfl, fun p hp j u hu => by cases hu⟩, fun k h1 => by simp at h1⟩
    obtain ⟨h6, h8⟩ := h5 p rfl
    obtain ⟨b, o, s⟩ := p
    have h6 : s = none := h6 (by omega)
    subst h6
    have hx : ∀ k : Fin l.length, ∃ x : EH, w.cell? ⟨b, o + k.1 * 3, none⟩ = some (.int .i64 x.i) ∧ w.cell? ⟨b, o + k.1 * 3 + 1, none⟩ = some (.int .i64 x.t) ∧ w.cell? ⟨b, o + k.1 * 3 + 2, none⟩ = some (.slice x.a x.n x.c) ∧
        x.i = l[k].i ∧ x.t = l[k].t ∧ ByF F w x.a x.n x.c l[k].d := by
      intro k
      obtain ⟨_, _, _, e1, e2, a', n', c', e3, e4⟩ := h8 k.1 k.2
      exact ⟨⟨l[k].i, l[k].t, a', n', c'⟩, e1, e2, e3, rfl, rfl, e4⟩
    refine ⟨List.ofFn fun k => Classical.choose (hx k), by simp, ⟨by rw [rawH_length]; simp, fun hn => (by cases hn), ?_⟩, ?_⟩
    · rintro p hp j u hu
      cases hp
      rw [add_lit]
      have hj : j = j / 3 * 3 + j % 3 := by omega
      have hm : j % 3 < 3 := by omega
      rw [hj, rawH_get _ _ _ hm] at hu
      generalize j % 3 = m at *
      generalize j / 3 = q at *
      subst hj
      rw [List.getElem?_ofFn] at hu
      split at hu
      · rename_i hq
        have hc := Classical.choose_spec (hx ⟨q, hq⟩)
        simp only [Option.bind_some] at hu
        generalize Classical.choose (hx ⟨q, hq⟩) = x at *
        match m, hm with
        | 0, _ => simp [EH.cells] at hu; subst hu; exact hc.1
        | 1, _ => simp [EH.cells] at hu; subst hu; exact hc.2.1
        | 2, _ => simp [EH.cells] at hu; subst hu; exact hc.2.2.1
      · cases hu
    · intro k h1 h2
      rw [List.getElem_ofFn]
      exact (Classical.choose_spec (hx ⟨k, h2⟩)).2.2.2

def u8s (d : List UInt8) : List Value := d.map fun x => .int .u8 (x.toNat : Int)
theorem u8s_mem (d : List UInt8) : ∀ u ∈ u8s d, u.oneCell' = true := by
  intro u hu
  obtain ⟨x, _, rfl⟩ := List.mem_map.1 hu
  rfl
theorem ByF.raw {F : Nat → Prop} {w : World} {a : Option Addr} {n c : Nat} {d : List UInt8} (h : ByF F w a n c d) : RowAt w a n 1 (u8s d) := by
  obtain ⟨rfl, h2, h3, h4, h5⟩ := h
  refine ⟨by simp [u8s], fun e => by have := h4 e; omega, fun p hp j u hu => ?_⟩
  obtain ⟨h6, h8⟩ := h5 p hp
  obtain ⟨b, o, s⟩ := p
  simp only [u8s, List.getElem?_map, Option.map_eq_some_iff] at hu
  obtain ⟨x, hx, rfl⟩ := hu
  obtain ⟨hj, rfl⟩ := List.getElem?_eq_some_iff.1 hx
  have h6 : s = none := h6 (by omega)
  subst h6
  rw [add_lit]
  exact (h8 j hj).2

/-- Bytes of the call's own. -/
theorem own_bytes {w : World} {B : Nat} {v : Value} {d : List UInt8} {e : TypeId} (h : w.ownsRow B e 1 v d.length (u8s d)) (hd : d.length ≤ 140737488351232) :
    ∃ a c, v = .slice a d.length c ∧ ByF (fun b => B ≤ b) w a d.length c d ∧ ∀ p, a = some p → p.block < w.heap.size ∧ ∀ j, w.frozen? ⟨p.block, j, none⟩ = false := by
  rcases h.2 with ⟨rfl, h0⟩ | ⟨g, cap, cur, rfl, hb, hg, hn, hm, hs, ht⟩
  · refine ⟨none, 0, by rw [h0], ⟨rfl, by omega, ⟨by simp [maxLen], hd⟩, fun _ => rfl, fun p hp => by cases hp⟩, fun p hp => by cases hp⟩
  · refine ⟨_, _, rfl, ⟨rfl, hn, ⟨hm, hd⟩, (fun e => by cases e), fun p hp => ?_⟩, fun p hp => ?_⟩
    · cases hp
      refine ⟨fun _ => rfl, fun k hk => ⟨hb, ?_⟩⟩
      rw [Nat.zero_add]
      have h1 := h.cellAt k (by omega)
      rw [h1]
      simp only [u8s, List.getElem?_map, List.getElem?_eq_getElem hk]
      rfl
    · cases hp
      exact ⟨by have := (Array.getElem?_eq_some_iff.1 hg).1; exact this, fun j => h.frozenAt j⟩

/-- Entries of the call's own: the row in block g, each entry's bytes in blocks behind it; nothing of it is frozen. -/
structure OwnAt (w : World) (g cap : Nat) (ent : TypeId) (l : List Ent) : Prop where
  row : ∃ cur, w.heap[g]? = some (.cells cur ent (0, 0)) ∧ cur.size = cap * 3
  len : l.length ≤ cap
  cap : cap ≤ maxLen
  most : l.length * 40 ≤ 140737488351232
  each : ∀ k, (h : k < l.length) → EnF (fun b => g < b) w g (k * 3) l[k]
  soft : ∀ k, k < l.length → ∀ p n c, w.cell? ⟨g, k * 3 + 2, none⟩ = some (.slice (some p) n c) → p.block < w.heap.size ∧ ∀ j, w.frozen? ⟨p.block, j, none⟩ = false
def OwnE (ent : TypeId) (B : Nat) (w : World) (v : Value) (l : List Ent) : Prop :=
  (v = .slice none 0 0 ∧ l = []) ∨ ∃ g cap, v = .slice (some ⟨g, 0, none⟩) l.length cap ∧ B ≤ g ∧ OwnAt w g cap ent l
theorem OwnE.es {ent : TypeId} {B : Nat} {w : World} {v : Value} {l : List Ent} (h : OwnE ent B w v l) : ∃ a c, v = .slice a l.length c ∧ EsF (fun b => B ≤ b) w a l.length c l := by
  rcases h with ⟨rfl, rfl⟩ | ⟨g, cap, rfl, hb, h⟩
  · exact ⟨none, 0, rfl, EsF.nil_ _ _⟩
  · refine ⟨_, _, rfl, rfl, h.len, ⟨h.cap, h.most⟩, (fun e => by cases e), fun p hp => ?_⟩
    cases hp
    refine ⟨fun _ => rfl, fun k hk => ⟨hb, ?_⟩⟩
    rw [Nat.zero_add]
    exact (h.each k hk).more fun b hb' => by omega

/-- In the midst of own: k entries have bytes of their own. -/
structure MixAt (F : Nat → Prop) (w : World) (g cap : Nat) (ent : TypeId) (l : List Ent) (k : Nat) : Prop where
  row : ∃ cur, w.heap[g]? = some (.cells cur ent (0, 0)) ∧ cur.size = cap * 3
  len : l.length ≤ cap
  cap : cap ≤ maxLen
  most : l.length * 40 ≤ 140737488351232
  old : ∀ j, (h : j < l.length) → k ≤ j → EnF F w g (j * 3) l[j]
  each : ∀ j, (h : j < l.length) → j < k → EnF (fun b => g < b) w g (j * 3) l[j]
  soft : ∀ j, j < l.length → j < k → ∀ p n c, w.cell? ⟨g, j * 3 + 2, none⟩ = some (.slice (some p) n c) → p.block < w.heap.size ∧ ∀ i, w.frozen? ⟨p.block, i, none⟩ = false
theorem MixAt.own {F : Nat → Prop} {w : World} {g cap : Nat} {ent : TypeId} {l : List Ent} (h : MixAt F w g cap ent l l.length) : OwnAt w g cap ent l :=
  ⟨h.row, h.len, h.cap, h.most, fun k hk => h.each k hk hk, fun k hk => h.soft k hk hk⟩
theorem EnF.setCell {G : Nat → Prop} {w : World} {g o j : Nat} {e : Ent} (h : EnF G w g o e) (hg : ¬ G g) (hj : j < o ∨ o + 3 ≤ j) (u : Value) : EnF G (w.setCell ⟨g, j, none⟩ u) g o e := by
  obtain ⟨h1, h2, h3, h4, a, n, c, h5, h6⟩ := h
  have ho : ∀ i, i < 3 → (w.setCell ⟨g, j, none⟩ u).cell? ⟨g, o + i, none⟩ = w.cell? ⟨g, o + i, none⟩ := fun i hi =>
    World.cell?_setCell_other w _ _ u (by intro e; simp only [Addr.mk.injEq, true_and, and_true] at e; omega)
  exact ⟨h1, h2, (ho 0 (by omega)).trans h3, (ho 1 (by omega)).trans h4, a, n, c, (ho 2 (by omega)).trans h5,
    h6.keep fun k hk _ => ⟨hk, heap_setCell_other w _ k u (by rintro rfl; exact hg hk)⟩⟩
theorem MixAt.step {F : Nat → Prop} {w w2 : World} {g cap : Nat} {ent : TypeId} {l : List Ent} {k : Nat} (h : MixAt F w g cap ent l k) (hk : k < l.length) (hF : ∀ b, F b → b < g) (hb : Ext w w2)
    {a : Option Addr} {c : Nat} (hd : ByF (fun b => w.heap.size ≤ b) w2 a l[k].d.length c l[k].d) (hs : ∀ p, a = some p → p.block < w2.heap.size ∧ ∀ j, w2.frozen? ⟨p.block, j, none⟩ = false) :
    MixAt F (w2.setCell ⟨g, k * 3 + 2, none⟩ (.slice a l[k].d.length c)) g cap ent l (k + 1) := by
  obtain ⟨cur, hc, hcs⟩ := h.row
  have hgl : g < w.heap.size := by have := (h.old k hk (Nat.le_refl _)).lt; exact this
  have hc2 : w2.heap[g]? = some (.cells cur ent (0, 0)) := (hb.block g hgl).trans hc
  refine ⟨⟨_, heap_setCell_same w2 g _ cur ent _ hc2, by simpa using hcs⟩, h.len, h.cap, h.most, fun j hj hkj => ?_, fun j hj hkj => ?_, fun j hj hkj p n' c' hp => ?_⟩
  · exact ((h.old j hj (by omega)).below hb).setCell (fun hg => Nat.lt_irrefl _ (hF g hg)) (by omega) _
  · by_cases he : j = k
    · subst he
      obtain ⟨h1, h2, h3, h4, a0, n0, c0, h5, h6⟩ := (h.old j hj (Nat.le_refl _)).below hb
      have hne : ∀ i, i < 2 → (w2.setCell ⟨g, j * 3 + 2, none⟩ (.slice a l[j].d.length c)).cell? ⟨g, j * 3 + i, none⟩ = w2.cell? ⟨g, j * 3 + i, none⟩ := fun i hi =>
        World.cell?_setCell_other w2 _ _ _ (by intro e; simp only [Addr.mk.injEq, true_and, and_true] at e; omega)
      refine ⟨h1, h2, (hne 0 (by omega)).trans h3, (hne 1 (by omega)).trans h4, a, _, c, World.cell?_setCell_same w2 _ _ h5, ?_⟩
      exact hd.keep fun q hq _ => ⟨by omega, heap_setCell_other w2 _ q _ (by show q ≠ g; omega)⟩
    · exact ((h.each j hj (by omega)).below hb).setCell (by omega) (by omega) _
  · simp only [World.frozen?_setCell]
    have hz : (w2.setCell ⟨g, k * 3 + 2, none⟩ (.slice a l[k].d.length c)).heap.size = w2.heap.size := by simp [World.setCell]
    rw [hz]
    by_cases he : j = k
    · subst he
      obtain ⟨h1, h2, h3, h4, a0, n0, c0, h5, h6⟩ := (h.old j hj (Nat.le_refl _)).below hb
      rw [World.cell?_setCell_same w2 _ _ h5] at hp
      simp only [Option.some.injEq, Value.slice.injEq] at hp
      exact hs p hp.1
    · rw [World.cell?_setCell_other w2 _ _ _ (by intro e; simp only [Addr.mk.injEq, true_and, and_true] at e; omega)] at hp
      obtain ⟨-, -, h3, -, a0, n0, c0, h5, h6⟩ := h.each j hj (by omega)
      have h5' := (hb.cell (p := ⟨g, j * 3 + 2, none⟩) hgl).trans h5
      rw [h5'] at hp
      simp only [Option.some.injEq, Value.slice.injEq] at hp
      obtain ⟨rfl, rfl, rfl⟩ := hp
      obtain ⟨hp, hz⟩ := h.soft j hj (by omega) p n0 c0 h5
      exact ⟨Nat.lt_of_lt_of_le hp hb.size, fun i => (hb.frozen (p := ⟨p.block, i, none⟩) hp).trans (hz i)⟩

/-- Behind the clone of a row. -/
theorem MixAt.start {F : Nat → Prop} {w w1 : World} {H : List EH} {l : List Ent} {v : Value} {ent : TypeId} (hn : H.length = l.length) (h40 : l.length * 40 ≤ 140737488351232) (hb : Ext w w1)
    (hown : w1.ownsRow w.heap.size ent 3 v H.length (rawH H)) (hH : ∀ k (h1 : k < H.length) (h2 : k < l.length), H[k].i = l[k].i ∧ H[k].t = l[k].t ∧ ByF F w H[k].a H[k].n H[k].c l[k].d)
    (h64 : ∀ k, (h : k < l.length) → In64 l[k].i ∧ In64 l[k].t) :
    ∃ A cap, v = .slice A l.length cap ∧ (A = none → l = [] ∧ cap = 0) ∧ ∀ p, A = some p → p.off = 0 ∧ p.spot = none ∧ w.heap.size ≤ p.block ∧ MixAt (fun b => b < w.heap.size) w1 p.block cap ent l 0 := by
  rcases hown.2 with ⟨rfl, h0⟩ | ⟨g, cap, cur, rfl, hg, hc, hnc, hm, hs, ht⟩
  · exact ⟨none, 0, by rw [← hn, h0], fun _ => ⟨List.eq_nil_of_length_eq_zero (by omega), rfl⟩, fun p hp => by cases hp⟩
  · refine ⟨_, _, by rw [← hn], (fun e => by cases e), fun p hp => ?_⟩
    cases hp
    refine ⟨rfl, rfl, hg, ⟨⟨cur, hc, hs⟩, by omega, hm, h40, fun j hj _ => ?_, fun j _ hj => absurd hj (by omega), fun j _ hj => absurd hj (by omega)⟩⟩
    obtain ⟨hi, ht, hd⟩ := hH j (by omega) hj
    have hcell : ∀ i, i < 3 → w1.cell? ⟨g, j * 3 + i, none⟩ = (H[j]'(by omega)).cells[i]? := fun i hi => by
      rw [hown.cellAt (j * 3 + i) (by omega), rawH_get _ _ _ hi, List.getElem?_eq_getElem (by omega)]; rfl
    refine ⟨(h64 j hj).1, (h64 j hj).2, (hcell 0 (by omega)).trans (by simp [EH.cells, hi]), (hcell 1 (by omega)).trans (by simp [EH.cells, ht]), _, _, _, (hcell 2 (by omega)).trans (by simp [EH.cells]; exact ⟨rfl, rfl, rfl⟩), ?_⟩
    exact hd.keep fun b _ hlt => ⟨hlt, hb.block b hlt⟩
end Go.Proofs.Ytjcmgkdlkadfmaa
