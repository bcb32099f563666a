/- Plain: records are read back, and what is left of one is none. -/
import Derived.Test.YtikjckdoldiddaaGreatDoorC07
import Derived.Test.YtikjckdoldiddaaGreatDoorC00
import Derived.Test.YtikjckdoldiddaaGreatDoorC21
namespace Go.Proofs.YtikjckdoldiddaaGreatDoor
open Go.RowKit Go.Maps
set_option linter.unusedVariables false
set_option linter.unusedSimpArgs false

theorem rdB_more (y : By) : ∀ (b : By) (i acc : Nat), (rdB i acc b).2.2 = 0 → rdB i acc (b ++ y) = rdB i acc b := by
  intro b
  induction b with
  | nil => intro i acc h; exact absurd h (by unfold rdB; decide)
  | cons x r ih =>
    intro i acc h
    have h1 : rdB i acc (x :: r) = if i = 0 ∧ x = 128 then (0, 0, 10) else if i = 9 then (0, 0, 5) else
      if x < 128 then (acc * 128 + x.toNat % 128, i + 1, 0) else rdB (i + 1) (acc * 128 + x.toNat % 128) r := rfl
    have h2 : rdB i acc (x :: r ++ y) = if i = 0 ∧ x = 128 then (0, 0, 10) else if i = 9 then (0, 0, 5) else
      if x < 128 then (acc * 128 + x.toNat % 128, i + 1, 0) else rdB (i + 1) (acc * 128 + x.toNat % 128) (r ++ y) := rfl
    rw [h1] at h
    rw [h1, h2]
    split
    · rfl
    rename_i c1
    rw [if_neg c1] at h
    split
    · rfl
    rename_i c2
    rw [if_neg c2] at h
    split
    · rfl
    rename_i c3
    rw [if_neg c3] at h
    exact ih _ _ h
theorem pickB_more {b : By} (y : By) (h : (pickB b).2.2 = 0) : pickB (b ++ y) = pickB b := by
  cases b with
  | nil => cases h
  | cons x r =>
    have hl : (x :: r ++ y).length = (x :: r).length + y.length := by rw [List.length_append]
    unfold pickB at h ⊢
    dsimp only [List.cons_append] at h ⊢
    rw [List.cons_append] at hl
    split at h
    · cases h
    rename_i c1
    split at h
    · rename_i c2; exact absurd h c2
    rename_i c2
    have hr : readB (r ++ y) = readB r := rdB_more y r 0 0 (Decidable.of_not_not c2)
    rw [hr]
    split at h
    · cases h
    rename_i c3
    split at h
    · cases h
    rename_i c4
    split at h
    · cases h
    rename_i c5
    have e1 : ((x :: (r ++ y)).drop (1 + (readB r).2.1 + (readB r).1)).take 4 = ((x :: r).drop (1 + (readB r).2.1 + (readB r).1)).take 4 := by
      rw [← List.cons_append, List.drop_append_of_le_length (by omega), List.take_append_of_le_length (by rw [List.length_drop]; omega)]
    have e2 : (x :: (r ++ y)).take (1 + (readB r).2.1 + (readB r).1) = (x :: r).take (1 + (readB r).2.1 + (readB r).1) := by
      rw [← List.cons_append, List.take_append_of_le_length (by omega)]
    have e3 : ((x :: (r ++ y)).drop (1 + (readB r).2.1)).take (readB r).1 = ((x :: r).drop (1 + (readB r).2.1)).take (readB r).1 := by
      rw [← List.cons_append, List.drop_append_of_le_length (by omega), List.take_append_of_le_length (by rw [List.length_drop]; omega)]
    rw [if_neg c1, if_neg c2, if_neg c3, if_neg (by omega), if_neg (by rw [e1, e2]; exact c5), e3, if_neg c1, if_neg c2, if_neg c3, if_neg c4, if_neg c5]
/-- What is left of a record is none. -/
theorem pickB_part {p x y : By} (hp : p.length ≤ 65536) (h : x ++ y = recB p) (hy : y ≠ []) : (pickB x).2.2 ≠ 0 := fun h0 => by
  have h1 := pickB_more y h0
  have h2 := pickB_rec hp []
  rw [List.append_nil] at h2
  rw [h, h2] at h1
  obtain ⟨-, h3⟩ := pickB_ok h0
  rw [← h1] at h3
  dsimp only at h3
  rw [← h, List.length_append] at h3
  have := List.length_pos_iff.2 hy
  omega
theorem rowsB_none {x : By} (h : (pickB x).2.2 ≠ 0) : rowsB x = ([], 0) := by rw [rowsB_eq, if_pos h]
theorem rowsB_cons {p : By} (hp : p.length ≤ 65536) (r : By) : rowsB (recB p ++ r) = (p :: (rowsB r).1, (recB p).length + (rowsB r).2) := by
  rw [rowsB_eq, pickB_rec hp]
  dsimp only
  rw [if_neg (by simp), List.drop_left]
theorem sizedB_cons (p : By) (L : List By) : sizedB (p :: L) = (recB p).length + sizedB L := rfl
theorem sizedB_flat (L : List By) : sizedB L = (L.map recB).flatten.length := by
  induction L with
  | nil => rfl
  | cons p L ih => rw [sizedB_cons, ih, List.map_cons, List.flatten_cons, List.length_append]
/-- A record's bytes have one form. -/
theorem pickB_canon {b : By} (h : (pickB b).2.2 = 0) : (recB (pickB b).1).length = (pickB b).2.1 := by
  cases b with
  | nil => cases h
  | cons x r =>
    unfold pickB at h ⊢
    dsimp only at h ⊢
    split at h
    · cases h
    rename_i c1
    split at h
    · rename_i c2; exact absurd h c2
    rename_i c2
    split at h
    · cases h
    rename_i c3
    split at h
    · cases h
    rename_i c4
    split at h
    · cases h
    rename_i c5
    rw [if_neg c1, if_neg c2, if_neg c3, if_neg c4, if_neg c5]
    dsimp only
    generalize hr : readB r = q at *
    obtain ⟨n, k, z⟩ := q
    dsimp only at *
    obtain rfl : z = 0 := Decidable.of_not_not c2
    obtain ⟨k1, k2⟩ := readB_canon hr
    have e1 : (((x :: r).drop (1 + k)).take n).length = n := by rw [List.length_take, List.length_drop]; omega
    rw [recB_len, e1, ← k1, List.length_take]
    omega
theorem rowsB_sized : ∀ (m : Nat) (b : By), b.length ≤ m → sizedB (rowsB b).1 = (rowsB b).2 := by
  intro m
  induction m with
  | zero =>
    intro b h
    rw [rowsB_eq]
    split
    · rfl
    rename_i h2
    have h3 := pickB_ok (Decidable.of_not_not h2)
    omega
  | succ m ih =>
    intro b h
    rw [rowsB_eq]
    split
    · rfl
    rename_i h2
    have h3 := pickB_ok (Decidable.of_not_not h2)
    have h4 := pickB_canon (Decidable.of_not_not h2)
    have h5 := ih (b.drop (pickB b).2.1) (by rw [List.length_drop]; omega)
    dsimp only
    rw [sizedB_cons, h4, h5]
theorem sizedB_take_mono (L : List By) (k : Nat) : sizedB (L.take k) ≤ sizedB L := by
  induction L generalizing k with
  | nil => simp
  | cons p L ih =>
    cases k with
    | zero => exact Nat.zero_le _
    | succ k => rw [List.take_succ_cons, sizedB_cons, sizedB_cons]; have := ih k; omega
theorem segR_sized (d : DS) (n k : Nat) : sizedB ((segR d n).take k) ≤ (segB d n).length := by
  have h1 := sizedB_take_mono (segR d n) k
  have h2 : sizedB (segR d n) = (rowsB (segB d n)).2 := rowsB_sized _ _ (Nat.le_refl _)
  have h3 := (rowsB_bound _ (segB d n) (Nat.le_refl _)).2.1
  omega
end Go.Proofs.YtikjckdoldiddaaGreatDoor

/- Plain: a log's disk keeps what holds of its files' names; tables; calm disks. -/
namespace Go.Proofs.YtikjckdoldiddaaGreatDoor
open Go.RowKit Go.Maps
set_option linter.unusedVariables false
set_option linter.unusedSimpArgs false

/-! ### tables -/
theorem tGet_put_eq {T : Tab} (h : tRise T) (n : Nm) (b : By) : tGet (tPut T n b) n = some b := (tPut_rise h n b).get (tPut_mem.2 (.inl rfl))
theorem tGet_of_mem {S T : Tab} (hS : tRise S) (hT : tRise T) {m : Nm} (h : ∀ b, (m, b) ∈ S ↔ (m, b) ∈ T) : tGet S m = tGet T m := by
  cases h1 : tGet T m with
  | some b => exact hS.get ((h b).2 (tGet_mem h1))
  | none =>
    cases h2 : tGet S m with
    | none => rfl
    | some b => rw [hT.get ((h b).1 (tGet_mem h2))] at h1; cases h1
theorem tGet_put_other {T : Tab} (h : tRise T) {n m : Nm} (hne : m ≠ n) (b : By) : tGet (tPut T n b) m = tGet T m :=
  tGet_of_mem (tPut_rise h n b) h fun c => by
    rw [tPut_mem]
    constructor
    · rintro (e | ⟨e, -⟩)
      · cases e; exact absurd rfl hne
      exact e
    intro e; exact .inr ⟨e, hne⟩
theorem tGet_del_eq {T : Tab} (n : Nm) : tGet (tDel T n) n = none := by
  cases h : tGet (tDel T n) n with
  | none => rfl
  | some b => exact absurd rfl (tDel_mem.1 (tGet_mem h)).2
theorem tGet_del_other {T : Tab} (h : tRise T) {n m : Nm} (hne : m ≠ n) : tGet (tDel T n) m = tGet T m :=
  tGet_of_mem (tDel_rise h n) h fun c => by
    rw [tDel_mem]
    exact ⟨fun e => e.1, fun e => ⟨e, hne⟩⟩
/-! ### names -/
def isWk (k : Nat) (x : Nm) : Prop := ∃ n, 1 ≤ n ∧ n ≤ k ∧ x = fileW n
theorem isWk.le {k j : Nat} (h : k ≤ j) (x : Nm) (hx : isWk k x) : isWk j x := by
  obtain ⟨n, h1, h2, h3⟩ := hx
  exact ⟨n, h1, by omega, h3⟩
def aP (P : Nm → Prop) : ActS → Prop
  | .write n _ _ => P n
  | .trim n _ => P n
  | .move _ n => P n
  | .drop _ => True
def tP (P : Nm → Prop) (T : Tab) : Prop := ∀ p ∈ T, P p.1
theorem tP.del {P : Nm → Prop} {T : Tab} (h : tP P T) (n : Nm) : tP P (tDel T n) := fun p hp => h p (List.mem_filter.1 hp).1
theorem tP.put {P : Nm → Prop} {T : Tab} (h : tP P T) {n : Nm} (hn : P n) (b : By) : tP P (tPut T n b) := fun p hp => by
  rcases tPut_mem.1 hp with rfl | hp
  · exact hn
  exact h p hp.1
theorem ActS.run_P {P : Nm → Prop} {a : ActS} {T : Tab} (ha : aP P a) (h : tP P T) : tP P (a.run T) := by
  cases a with
  | write n k b => exact h.put ha _
  | trim n k => exact h.put ha _
  | move o n => exact (h.del o).put ha _
  | drop n => exact h.del n
theorem runAll_P {P : Nm → Prop} : ∀ (l : List ActS) (T : Tab), (∀ a ∈ l, aP P a) → tP P T → tP P (runAll T l) := by
  intro l
  induction l with
  | nil => intro T _ h; exact h
  | cons a l ih => intro T hf h; exact ih (a.run T) (fun x hx => hf x (List.mem_cons_of_mem _ hx)) (ActS.run_P (hf a (List.mem_cons_self ..)) h)
def DS.On (P : Nm → Prop) (d : DS) : Prop := tP P d.last ∧ ∀ a ∈ d.acts, aP P a
theorem DS.On.mono {P Q : Nm → Prop} (hPQ : ∀ x, P x → Q x) {d : DS} (h : d.On P) : d.On Q :=
  ⟨fun p hp => hPQ _ (h.1 p hp), fun a ha => by have := h.2 a ha; cases a <;> first | exact hPQ _ this | trivial⟩
theorem DS.On.seen {P : Nm → Prop} {d : DS} (h : d.On P) (hok : d.Ok) : tP P d.seen := by
  rw [hok.seen]; exact runAll_P _ _ h.2 h.1
theorem aP_cut {P : Nm → Prop} {a : ActS} (h : aP P a) (q : Nat) : aP P (a.cut q) := by cases a <;> exact h
theorem DS.On.fall {P : Nm → Prop} {d : DS} (h : d.On P) (keep tear : Int) : (d.fall keep tear).On P := by
  refine ⟨runAll_P _ _ (fun a ha => ?_) h.1, fun a ha => by cases ha⟩
  rcases lastsS_split d.acts keep tear with e | ⟨m, x, q, hm, hx, hq, e⟩
  · rw [e] at ha; cases ha
  rw [e] at ha
  rcases List.mem_append.1 ha with ha | ha
  · exact h.2 a (List.mem_of_mem_take ha)
  rw [List.mem_singleton.1 ha]
  exact aP_cut (h.2 x (List.mem_of_getElem? hx)) q
theorem DS.On.hit {P : Nm → Prop} {d : DS} (h : d.On P) : d.hit.2.On P := by unfold DS.hit; split <;> exact h
theorem DS.On.does {P : Nm → Prop} {d : DS} (h : d.On P) {a : ActS} (ha : aP P a) : (d.does a).2.On P := by
  have h1 : DS.On P { d with seen := a.run d.seen, acts := d.acts ++ [a] } := ⟨h.1, fun x hx => by
    rcases List.mem_append.1 hx with hx | hx
    · exact h.2 x hx
    rw [List.mem_singleton.1 hx]; exact ha⟩
  unfold DS.does
  dsimp only
  split
  · exact DS.On.fall h1.hit _ _
  exact h1.hit
theorem DS.On.write {P : Nm → Prop} {d : DS} (h : d.On P) {n : Nm} (hn : P n) (k : Int) (b : By) : (d.write n k b).2.On P := by
  unfold DS.write
  repeat' split
  all_goals first
    | exact h
    | exact h.does hn
theorem DS.On.trim {P : Nm → Prop} {d : DS} (h : d.On P) {n : Nm} (hn : P n) (k : Int) : (d.trim n k).2.On P := by
  unfold DS.trim
  repeat' split
  all_goals first
    | exact h
    | exact h.does hn
theorem DS.On.drop {P : Nm → Prop} {d : DS} (h : d.On P) (n : Nm) : (d.drop n).2.On P := by
  unfold DS.drop
  split
  · exact h
  exact h.does (a := .drop n) trivial
theorem DS.On.sync {P : Nm → Prop} {d : DS} (h : d.On P) (hok : d.Ok) : d.sync.2.On P := by
  unfold DS.sync
  split
  · exact h
  split
  · exact h.hit.fall _ _
  exact ⟨fun p hp => (h.seen hok) p hp, fun a ha => by cases ha⟩
theorem DS.On.wok {k : Nat} {d : DS} (h : d.On (isWk k)) (hk : k < 1000000000000) : d.Wok := by
  have h1 : ∀ x, isWk k x → isW x := fun x hx => by
    obtain ⟨n, n1, n2, n3⟩ := hx
    exact ⟨n, n1, by omega, n3⟩
  exact ⟨fun p hp => h1 _ (h.1 p hp), fun a ha => by have := h.2 a ha; cases a <;> first | exact h1 _ this | trivial⟩
/-! ### a calm disk -/
def DS.Calm (d : DS) : Prop := d.off = false ∧ d.left = 0
theorem hit_calmW {s : DS} (hl : s.left = 0) : s.hit = (false, s) := by unfold DS.hit; rw [if_pos hl]
theorem does_calmW {s : DS} (hl : s.left = 0) (a : ActS) : s.does a = (0, { s with seen := a.run s.seen, acts := s.acts ++ [a] }) := by
  unfold DS.does
  dsimp only
  rw [hit_calmW (show ({ s with seen := a.run s.seen, acts := s.acts ++ [a] } : DS).left = 0 from hl), if_neg (by simp)]
theorem sync_calmW {s : DS} (h : s.Calm) : s.sync = (0, { s with last := s.seen, acts := [] }) := by
  unfold DS.sync
  rw [if_neg (by rw [h.1]; simp), hit_calmW h.2, if_neg (by simp)]
theorem find_someW {s : DS} (ho : s.off = false) {n : Nm} (hm : mayS n = true) {b : By} (hg : tGet s.seen n = some b) : s.find n = 0 := by
  unfold DS.find; rw [if_neg (by rw [ho]; simp), if_neg (by rw [hm]; simp), if_neg (by rw [hg]; simp)]
theorem find_noneW {s : DS} (ho : s.off = false) {n : Nm} (hm : mayS n = true) (hg : tGet s.seen n = none) : s.find n = 21 := by
  unfold DS.find; rw [if_neg (by rw [ho]; simp), if_neg (by rw [hm]; simp), if_pos hg]
theorem wrB_endW (o b : By) : wrB o o.length b = o ++ b := by
  unfold wrB; rw [List.take_length, List.drop_of_length_le (by omega), List.append_nil]
theorem drop_calmW {d : DS} (h : d.Calm) {n : Nm} (hm : mayS n = true) {b : By} (hg : tGet d.seen n = some b) :
    d.drop n = (0, { d with seen := tDel d.seen n, acts := d.acts ++ [.drop n] }) := by
  unfold DS.drop
  rw [if_neg (by rw [find_someW h.1 hm hg]; simp), does_calmW h.2]
  rfl
theorem trim_calmW {d : DS} (h : d.Calm) {n : Nm} (hm : mayS n = true) {b : By} (hg : tGet d.seen n = some b) {k : Nat} (hk : k ≤ b.length) :
    d.trim n (k : Int) = (0, { d with seen := tPut d.seen n (b.take k), acts := d.acts ++ [.trim n k] }) := by
  have ho : tOld d.seen n = b := by unfold tOld; rw [hg]; rfl
  unfold DS.trim
  rw [if_neg (by rw [find_someW h.1 hm hg]; simp), if_neg (by rw [ho]; omega), does_calmW h.2]
  show (0, ({ d with seen := tPut d.seen n ((tOld d.seen n).take (k : Int).toNat), acts := d.acts ++ [.trim n (k : Int).toNat] } : DS)) = _
  rw [ho, Int.toNat_natCast]
/-- Bytes behind all others of a file. -/
theorem write_endW {d : DS} (h : d.Calm) {n : Nm} (hm : mayS n = true) {o b : By} (hg : tGet d.seen n = some o) :
    d.write n (o.length : Int) b = if (b.length : Int) > d.room - d.used then (7, d) else (0, { d with seen := tPut d.seen n (o ++ b), acts := d.acts ++ [.write n o.length b] }) := by
  have ho : tOld d.seen n = o := by unfold tOld; rw [hg]; rfl
  have hf := find_someW h.1 hm hg
  unfold DS.write
  rw [if_neg (by rw [hf]; simp), if_neg (by rw [hf]; simp), if_neg (by rw [ho]; omega)]
  split
  · rfl
  rw [does_calmW h.2]
  show (0, ({ d with seen := tPut d.seen n (wrB (tOld d.seen n) (o.length : Int).toNat b), acts := d.acts ++ [.write n (o.length : Int).toNat b] } : DS)) = _
  rw [ho, Int.toNat_natCast, wrB_endW]
/-- Bytes of a new file. -/
theorem write_newW {d : DS} (h : d.Calm) {n : Nm} (hm : mayS n = true) (b : By) (hg : tGet d.seen n = none) :
    d.write n 0 b = if d.seen.length ≥ 4096 then (7, d) else if (b.length : Int) > d.room - d.used then (7, d) else (0, { d with seen := tPut d.seen n b, acts := d.acts ++ [.write n 0 b] }) := by
  have ho : tOld d.seen n = [] := by unfold tOld; rw [hg]; rfl
  have hf := find_noneW h.1 hm hg
  unfold DS.write
  rw [if_pos ⟨hf, rfl⟩]
  split
  · rfl
  split
  · rfl
  rw [does_calmW h.2]
  show (0, ({ d with seen := tPut d.seen n (wrB (tOld d.seen n) 0 b), acts := d.acts ++ [.write n 0 b] } : DS)) = _
  have e : wrB [] 0 b = b := by unfold wrB; simp
  rw [ho, e]
end Go.Proofs.YtikjckdoldiddaaGreatDoor

/- Plain: what a log's calls lead to. -/
namespace Go.Proofs.YtikjckdoldiddaaGreatDoor
open Go.RowKit Go.Maps
set_option linter.unusedVariables false
set_option linter.unusedSimpArgs false

/-- Entries behind all; none: one may not be. -/
def Wv.adds : Wv → List Ent → Option Wv
  | v, [] => some v
  | v, e :: r => if v.good e = true then Wv.adds { v with l := v.l ++ [e] } r else none
def Lo.setV (v : Lo) (n : Wv) : Lo := ⟨⟨n, v.s.fr, v.s.tt, v.s.sz⟩, v.d⟩
def Lo.appR (v : Lo) (l : List Ent) : Option Wv → Int × Lo
  | none => (51, v)
  | some n => if l = [] then (0, v) else if (v.write (entsB l)).1 = 0 then (0, (v.write (entsB l)).2.setV n) else v.write (entsB l)
def Lo.app (v : Lo) (l : List Ent) : Int × Lo := v.appR l (v.s.v.adds l)
def Wv.cutV (v : Wv) (n : Int) : Wv := { v with l := v.l.take (n - v.i - 1).toNat }
def Lo.cut (v : Lo) (n : Int) : Int × Lo :=
  if n ≤ v.s.v.i ∨ v.s.v.last < n then (51, v)
  else if (v.write (cutB n)).1 = 0 then (0, (v.write (cutB n)).2.setV (v.s.v.cutV n)) else v.write (cutB n)
def Wv.rebased (v : Wv) (n t : Int) : Wv := ⟨v.ht, v.hv, n, t, if v.at_ n = t ∧ n ≤ v.last then v.l.drop (n - v.i).toNat else []⟩
def dropL : List Nat → DS → Int × DS
  | [], d => (0, d)
  | n :: r, d => if (d.drop (fileW n)).1 = 0 then dropL r (d.drop (fileW n)).2 else d.drop (fileW n)
def Lo.old (v : Lo) : List Nat := List.range' (max v.s.fr 1) (v.s.tt + 1 - max v.s.fr 1)
def Lo.reb2 (s : Wl) (o : List Nat) (r : Int × DS) : Int × Lo :=
  if r.1 = 0 then ((dropL o r.2).1, ⟨s, (dropL o r.2).2⟩) else (r.1, ⟨s, r.2⟩)
def Lo.reb1 (v : Lo) (n : Wv) (r : Int × DS) : Int × Lo :=
  if r.1 = 0 then Lo.reb2 ⟨n, v.s.tt + 1, v.s.tt + 1, n.whole.length⟩ v.old r.2.sync else (r.1, ⟨v.s, r.2⟩)
def Lo.rebase (v : Lo) (n t : Int) : Int × Lo :=
  if n < v.s.v.i ∨ withinS n 0 = false ∨ withinS t 0 = false then (51, v)
  else v.reb1 (v.s.v.rebased n t) (v.d.write (fileW (v.s.tt + 1)) 0 (v.s.v.rebased n t).whole)
theorem Wv.adds_eq : ∀ (l : List Ent) (v n : Wv), v.adds l = some n → n = { v with l := v.l ++ l } := by
  intro l
  induction l with
  | nil => intro v n h; cases h; simp
  | cons e r ih =>
    intro v n h
    unfold Wv.adds at h
    split at h
    · rw [ih _ _ h]; simp
    cases h
theorem Wv.adds_cons (v : Wv) (e : Ent) (r : List Ent) : v.adds (e :: r) = if v.good e = true then Wv.adds { v with l := v.l ++ [e] } r else none := rfl
theorem Wv.adds_append : ∀ (l r : List Ent) (v : Wv), v.adds (l ++ r) = (v.adds l).bind fun n => n.adds r := by
  intro l
  induction l with
  | nil => intro r v; rfl
  | cons e l ih =>
    intro r v
    rw [List.cons_append, Wv.adds_cons, Wv.adds_cons]
    split
    · exact ih r _
    rfl
/-! ### how many bytes a view has -/
def Wv.wt (v : Wv) : Nat := (v.l.map fun e => 50 + e.d.length).sum
theorem Wv.wt_many (v : Wv) : 50 * v.l.length ≤ v.wt := by
  unfold Wv.wt
  generalize v.l = l
  induction l with
  | nil => exact Nat.le_refl _
  | cons e r ih => rw [List.map_cons, List.sum_cons, List.length_cons]; omega
theorem numS_len (x : Int) : 1 ≤ (numS x).length ∧ (numS x).length ≤ 9 := by unfold numS; exact numB_len _
theorem entB_len (e : Ent) : (entB e).length ≤ 50 + e.d.length := by
  have h1 : (entB e).length = 1 + (numB (payB [2, e.i, e.t] true e.d).length).length + (payB [2, e.i, e.t] true e.d).length + 4 := recB_len _
  have h2 : payB [2, e.i, e.t] true e.d = numS 2 ++ (numS e.i ++ (numS e.t ++ (numS (e.d.length : Int) ++ e.d))) := by
    simp [payB, numsB]
  have h3 : (payB [2, e.i, e.t] true e.d).length ≤ 36 + e.d.length := by
    rw [h2]
    simp only [List.length_append]
    have a1 := (numS_len 2).2
    have a2 := (numS_len e.i).2
    have a3 := (numS_len e.t).2
    have a4 := (numS_len (e.d.length : Int)).2
    omega
  have h4 := (numB_len (payB [2, e.i, e.t] true e.d).length).2
  omega
theorem entsB_len (l : List Ent) : (entsB l).length ≤ (l.map fun e => 50 + e.d.length).sum := by
  unfold entsB
  induction l with
  | nil => exact Nat.le_refl _
  | cons e r ih =>
    rw [List.map_cons, List.flatten_cons, List.length_append, List.map_cons, List.sum_cons]
    have := entB_len e
    omega
theorem small_rec (l : List Int) (h : l.length ≤ 3) : (recB (payB l false [])).length ≤ 41 := by
  have h1 := recB_len (payB l false [])
  have h2 : (payB l false []).length ≤ 9 * l.length := by
    show (numsB l).length ≤ _
    clear h h1
    unfold numsB
    induction l with
    | nil => exact Nat.le_refl _
    | cons x r ih => rw [List.map_cons, List.flatten_cons, List.length_append, List.length_cons]; have := (numS_len x).2; omega
  have h4 := (numB_len (payB l false []).length).2
  omega
theorem whole_len (v : Wv) : v.whole.length ≤ v.wt + 123 := by
  unfold Wv.whole
  simp only [List.length_append]
  have h1 : (startB v.i v.t).length ≤ 41 := small_rec [4, v.i, v.t] (Nat.le_refl _)
  have h2 : (hardB v.ht v.hv).length ≤ 41 := small_rec [1, v.ht, v.hv] (Nat.le_refl _)
  have h3 : endB.length ≤ 41 := small_rec [5] (by decide)
  have h4 := entsB_len v.l
  unfold Wv.wt
  omega
theorem cutB_len (n : Int) : (cutB n).length ≤ 41 := small_rec [3, n] (by simp)
end Go.Proofs.YtikjckdoldiddaaGreatDoor

/- Plain: sizes that a log's calls keep. -/
namespace Go.Proofs.YtikjckdoldiddaaGreatDoor
open Go.RowKit Go.Maps
set_option linter.unusedVariables false
set_option linter.unusedSimpArgs false

structure Lo.Fit (v : Lo) (k m : Nat) : Prop where
  ok : v.d.Ok
  on : v.d.On (isWk k)
  acts : v.d.acts.length ≤ 10000 * k
  i64 : In64 v.s.v.ht ∧ In64 v.s.v.hv ∧ In64 v.s.v.i ∧ In64 v.s.v.t
  big : 0 ≤ v.s.v.i ∧ v.s.v.i ≤ 1099511627776
  len : ∀ x ∈ v.s.v.l, x.d.length ≤ 4096
  wt : v.s.v.wt ≤ m
  tt : v.s.tt ≤ k
  fr : v.s.fr ≤ v.s.tt
  sz : v.s.sz ≤ 1000000000000 + 1000000000 * k
theorem Lo.Fit.fine {v : Lo} {k m : Nat} (h : v.Fit k m) (hm : m ≤ 500000000) : v.s.v.Fine 10000000 := by
  have h1 := v.s.v.wt_many
  have h2 := h.wt
  exact ⟨h.i64, h.big, by omega, h.len⟩
theorem Lo.Fit.le {v : Lo} {k m j n : Nat} (h : v.Fit k m) (hk : k ≤ j) (hm : m ≤ n) : v.Fit j n :=
  ⟨h.ok, h.on.mono (isWk.le hk), by have := h.acts; omega, h.i64, h.big, h.len, by have := h.wt; omega, by have := h.tt; omega, h.fr, by have := h.sz; omega⟩
theorem DS.write_acts1 (s : DS) (n : Nm) (k : Int) (b : By) : (s.write n k b).2.acts.length ≤ s.acts.length + 1 := by
  unfold DS.write
  have h1 := fun a => DS.does_acts s a
  repeat' split
  all_goals first
    | exact h1 _
    | (dsimp only; omega)
theorem DS.sync_acts1 (s : DS) : s.sync.2.acts.length ≤ s.acts.length := by
  unfold DS.sync
  split
  · exact Nat.le_refl _
  split
  · exact Nat.zero_le _
  exact Nat.zero_le _
theorem dropL_ok : ∀ (l : List Nat) {d : DS}, d.Ok → (dropL l d).2.Ok := by
  intro l
  induction l with
  | nil => intro d h; exact h
  | cons n r ih =>
    intro d h
    unfold dropL
    split
    · exact ih (h.drop _)
    exact h.drop _
theorem dropL_on {P : Nm → Prop} : ∀ (l : List Nat) {d : DS}, d.On P → (dropL l d).2.On P := by
  intro l
  induction l with
  | nil => intro d h; exact h
  | cons n r ih =>
    intro d h
    unfold dropL
    split
    · exact ih (h.drop _)
    exact h.drop _
theorem dropL_acts : ∀ (l : List Nat) (d : DS), (dropL l d).2.acts.length ≤ d.acts.length + l.length := by
  intro l
  induction l with
  | nil => intro d; exact Nat.le_refl _
  | cons n r ih =>
    intro d
    have h1 := DS.drop_acts d (fileW n)
    unfold dropL
    rw [List.length_cons]
    split
    · have := ih (d.drop (fileW n)).2; omega
    omega
theorem Lo.put_fit {v : Lo} {k m : Nat} (h : v.Fit k m) {tt sz : Nat} {b : By} (h1 : 1 ≤ tt) (ht : tt ≤ k + 1) (htt : v.s.tt ≤ tt) (hs : sz ≤ v.s.sz) (hb : b.length ≤ 1000000000) : (v.put tt sz b).2.Fit (k + 1) m := by
  have e1 := h.ok.write (fileW tt) (sz : Int) b
  have e2 := (h.on.mono (isWk.le (Nat.le_succ k))).write (n := fileW tt) ⟨tt, h1, ht, rfl⟩ (sz : Int) b
  have e3 := v.d.write_acts1 (fileW tt) (sz : Int) b
  have e4 := h.acts
  have e5 := h.tt
  have e6 := h.sz
  have e7 := h.fr
  unfold Lo.put
  split
  · exact ⟨e1, e2, by show _ ≤ 10000 * (k + 1); dsimp only; omega, h.i64, h.big, h.len, h.wt, by dsimp only; omega, e7, by dsimp only; omega⟩
  exact ⟨e1, e2, by show _ ≤ 10000 * (k + 1); dsimp only; omega, h.i64, h.big, h.len, h.wt, ht, by dsimp only; omega, by dsimp only; omega⟩
theorem wv0_len : wv0.whole.length ≤ 123 := by
  have := whole_len wv0
  have h : wv0.wt = 0 := rfl
  omega
theorem Lo.write_fit {v : Lo} {k m : Nat} (h : v.Fit k m) {b : By} (hb : b.length ≤ 999999000) : (v.write b).2.Fit (k + 1) m := by
  have h1 := wv0_len
  have h2 := h.tt
  unfold Lo.write
  split
  · exact Lo.put_fit h (Nat.le_refl _) (by omega) (by omega) (Nat.zero_le _) (by rw [List.length_append]; omega)
  split
  · exact Lo.put_fit h (by omega) (by omega) (by omega) (Nat.zero_le _) (by omega)
  exact Lo.put_fit h (by omega) (by omega) (Nat.le_refl _) (Nat.le_refl _) (by omega)
theorem Lo.write_v (v : Lo) (b : By) : (v.write b).2.s.v = v.s.v := by
  unfold Lo.write Lo.put
  repeat' split
  all_goals rfl
theorem Lo.Fit.setV {v : Lo} {k m : Nat} (h : v.Fit k m) {n : Wv} {m' : Nat} (h64 : In64 n.ht ∧ In64 n.hv ∧ In64 n.i ∧ In64 n.t) (hbig : 0 ≤ n.i ∧ n.i ≤ 1099511627776) (hlen : ∀ x ∈ n.l, x.d.length ≤ 4096) (hwt : n.wt ≤ m') : (v.setV n).Fit k m' :=
  ⟨h.ok, h.on, h.acts, h64, hbig, hlen, hwt, h.tt, h.fr, h.sz⟩
theorem hardB_len (t x : Int) : (hardB t x).length ≤ 41 := small_rec [1, t, x] (Nat.le_refl _)
theorem goodHS_iff {t x : Int} (h : goodHS t x = true) : (0 ≤ t ∧ t ≤ 1099511627776) ∧ 0 ≤ x ∧ x ≤ 7 := by
  unfold goodHS at h
  simp only [Bool.and_eq_true, decide_eq_true_eq] at h
  exact ⟨within_big h.1.1, h.1.2, h.2⟩
theorem Lo.hard_fit {v : Lo} {k m : Nat} (h : v.Fit k m) (t x : Int) : (v.hard t x).2.Fit (k + 1) m := by
  have h1 := hardB_len t x
  have h2 := Lo.write_fit h (b := hardB t x) (by omega)
  unfold Lo.hard
  split
  · rename_i hg
    obtain ⟨⟨g1, g2⟩, g3, g4⟩ := goodHS_iff hg
    split
    · have e : (v.write (hardB t x)).2.setH t x = (v.write (hardB t x)).2.setV ⟨t, x, (v.write (hardB t x)).2.s.v.i, (v.write (hardB t x)).2.s.v.t, (v.write (hardB t x)).2.s.v.l⟩ := rfl
      rw [e, Lo.write_v]
      exact h2.setV ⟨(show In64 t from ⟨by omega, by omega⟩), (show In64 x from ⟨by omega, by omega⟩), h.i64.2.2.1, h.i64.2.2.2⟩ h.big h.len h.wt
    exact h2
  exact h.le (Nat.le_succ _) (Nat.le_refl _)
def wtE (l : List Ent) : Nat := (l.map fun e => 50 + e.d.length).sum
theorem wtE_append (l r : List Ent) : wtE (l ++ r) = wtE l + wtE r := by unfold wtE; rw [List.map_append, List.sum_append]
theorem Wv.adds_len : ∀ (l : List Ent) (v n : Wv), v.adds l = some n → ∀ x ∈ l, x.d.length ≤ 4096 := by
  intro l
  induction l with
  | nil => intro v n _ x hx; cases hx
  | cons e r ih =>
    intro v n h x hx
    unfold Wv.adds at h
    split at h
    · rename_i hg
      rcases List.mem_cons.1 hx with rfl | hx
      · unfold Wv.good at hg
        simp only [Bool.and_eq_true, decide_eq_true_eq] at hg
        exact hg.2
      exact ih _ _ h x hx
    cases h
theorem Lo.app_fit {v : Lo} {k m : Nat} (h : v.Fit k m) {l : List Ent} (hl : wtE l ≤ 500000000) : (v.app l).2.Fit (k + 1) (m + wtE l) := by
  have h1 : (entsB l).length ≤ wtE l := entsB_len l
  have h2 := Lo.write_fit h (b := entsB l) (by omega)
  unfold Lo.app
  cases ha : v.s.v.adds l with
  | none => exact h.le (Nat.le_succ _) (Nat.le_add_right _ _)
  | some n =>
    unfold Lo.appR
    have e := Wv.adds_eq _ _ _ ha
    have hlen := Wv.adds_len _ _ _ ha
    dsimp only
    split
    · exact h.le (Nat.le_succ _) (Nat.le_add_right _ _)
    split
    · subst e
      refine h2.setV h.i64 h.big (fun x hx => ?_) ?_
      · rcases List.mem_append.1 hx with hx | hx
        · exact h.len x hx
        exact hlen x hx
      show wtE (v.s.v.l ++ l) ≤ _
      rw [wtE_append]
      have : wtE v.s.v.l ≤ m := h.wt
      omega
    exact h2.le (Nat.le_refl _) (Nat.le_add_right _ _)
theorem wtE_take (l : List Ent) (n : Nat) : wtE (l.take n) ≤ wtE l := by
  have h := wtE_append (l.take n) (l.drop n)
  rw [List.take_append_drop] at h
  omega
theorem wtE_drop (l : List Ent) (n : Nat) : wtE (l.drop n) ≤ wtE l := by
  have h := wtE_append (l.take n) (l.drop n)
  rw [List.take_append_drop] at h
  omega
theorem Lo.cut_fit {v : Lo} {k m : Nat} (h : v.Fit k m) (n : Int) : (v.cut n).2.Fit (k + 1) m := by
  have h1 := cutB_len n
  have h2 := Lo.write_fit h (b := cutB n) (by omega)
  unfold Lo.cut
  split
  · exact h.le (Nat.le_succ _) (Nat.le_refl _)
  split
  · exact h2.setV h.i64 h.big (fun x hx => h.len x (List.mem_of_mem_take hx)) (Nat.le_trans (wtE_take _ _) h.wt)
  exact h2
theorem Lo.sync_fit {v : Lo} {k m : Nat} (h : v.Fit k m) : v.sync.2.Fit k m :=
  ⟨h.ok.sync, h.on.sync h.ok, Nat.le_trans (DS.sync_acts1 _) h.acts, h.i64, h.big, h.len, h.wt, h.tt, h.fr, h.sz⟩
theorem Wv.rebased_wt (v : Wv) (n t : Int) : (v.rebased n t).wt ≤ v.wt := by
  show wtE (if v.at_ n = t ∧ n ≤ v.last then v.l.drop (n - v.i).toNat else []) ≤ wtE v.l
  split
  · exact wtE_drop _ _
  exact Nat.zero_le _
theorem Lo.rebase_fit {v : Lo} {k m : Nat} (h : v.Fit k m) (hk : k ≤ 5000) (hm : m ≤ 500000000) (n t : Int) (ht : In64 t) : (v.rebase n t).2.Fit (k + 1) m := by
  have hw := Wv.rebased_wt v.s.v n t
  have hwl := whole_len (v.s.v.rebased n t)
  have hwm := h.wt
  have htt := h.tt
  have ha := h.acts
  have hsz := h.sz
  unfold Lo.rebase
  split
  · exact h.le (Nat.le_succ _) (Nat.le_refl _)
  rename_i hg
  have g2 : withinS n 0 = true := by
    cases e : withinS n 0 with
    | true => rfl
    | false => exact absurd (.inr (.inl e)) hg
  have g3 : withinS t 0 = true := by
    cases e : withinS t 0 with
    | true => rfl
    | false => exact absurd (.inr (.inr e)) hg
  have b1 := within_big g2
  have b2 := within_big g3
  have hlen : ∀ x ∈ (v.s.v.rebased n t).l, x.d.length ≤ 4096 := fun x hx => by
    have hx : x ∈ (if v.s.v.at_ n = t ∧ n ≤ v.s.v.last then v.s.v.l.drop (n - v.s.v.i).toNat else []) := hx
    split at hx
    · exact h.len x (List.mem_of_mem_drop hx)
    cases hx
  have h64 : In64 (v.s.v.rebased n t).ht ∧ In64 (v.s.v.rebased n t).hv ∧ In64 (v.s.v.rebased n t).i ∧ In64 (v.s.v.rebased n t).t :=
    ⟨h.i64.1, h.i64.2.1, (show In64 n from ⟨by omega, by omega⟩), ht⟩
  have hbig : 0 ≤ (v.s.v.rebased n t).i ∧ (v.s.v.rebased n t).i ≤ 1099511627776 := b1
  generalize v.s.v.rebased n t = nv at *
  have e1 := h.ok.write (fileW (v.s.tt + 1)) 0 nv.whole
  have e2 := (h.on.mono (isWk.le (Nat.le_succ k))).write (n := fileW (v.s.tt + 1)) ⟨v.s.tt + 1, by omega, by omega, rfl⟩ 0 nv.whole
  have e3 := v.d.write_acts1 (fileW (v.s.tt + 1)) 0 nv.whole
  generalize v.d.write (fileW (v.s.tt + 1)) 0 nv.whole = r at *
  have f1 := e1.sync
  have f2 := e2.sync e1
  have f3 := DS.sync_acts1 r.2
  unfold Lo.reb1
  split
  · generalize r.2.sync = q at *
    have q1 := dropL_ok v.old f1
    have q2 := dropL_on v.old f2
    have q3 := dropL_acts v.old q.2
    have q4 : v.old.length ≤ v.s.tt + 1 := by unfold Lo.old; rw [List.length_range']; omega
    unfold Lo.reb2
    split
    · exact ⟨q1, q2, by show _ ≤ 10000 * (k + 1); dsimp only; omega, h64, hbig, hlen, by dsimp only; omega, by dsimp only; omega, Nat.le_refl _, by dsimp only; omega⟩
    exact ⟨f1, f2, by show _ ≤ 10000 * (k + 1); dsimp only; omega, h64, hbig, hlen, by dsimp only; omega, by dsimp only; omega, Nat.le_refl _, by dsimp only; omega⟩
  exact ⟨e1, e2, by show _ ≤ 10000 * (k + 1); dsimp only; omega, h.i64, h.big, h.len, h.wt, by dsimp only; omega, h.fr, by dsimp only; omega⟩
end Go.Proofs.YtikjckdoldiddaaGreatDoor
