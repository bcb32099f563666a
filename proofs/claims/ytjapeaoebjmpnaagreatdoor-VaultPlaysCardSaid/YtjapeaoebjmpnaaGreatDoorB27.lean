/- Which state a disk's files have; opening where nothing fails: plain. -/
import Derived.Test.YtjapeaoebjmpnaaGreatDoorB19
namespace Go.Proofs.YtjapeaoebjmpnaaGreatDoor
open Go.RowKit Go.Maps
set_option linter.unusedVariables false
set_option linter.unusedSimpArgs false

/-! ### names rise as their numbers do -/
def digB (a : By) : Prop := ∀ c ∈ a, 48 ≤ c.toNat ∧ c.toNat ≤ 57
def accB (x : Nat) (a : By) : Nat := a.foldl (fun a c => 10 * a + (c.toNat - 48)) x
theorem accB_lt : ∀ (a b : By) (x y : Nat), a.length = b.length → digB a → digB b → x < y → accB x a < accB y b := by
  intro a
  induction a with
  | nil =>
    intro b x y hl _ _ h
    cases b with
    | nil => exact h
    | cons d b => cases hl
  | cons c a ih =>
    intro b x y hl h1 h2 h
    cases b with
    | nil => cases hl
    | cons d b =>
      have e1 := h1 c (List.mem_cons_self ..)
      have e2 := h2 d (List.mem_cons_self ..)
      exact ih b (10 * x + (c.toNat - 48)) (10 * y + (d.toNat - 48)) (by simpa using hl) (fun z hz => h1 z (List.mem_cons_of_mem _ hz)) (fun z hz => h2 z (List.mem_cons_of_mem _ hz)) (by omega)
theorem accB_bb : ∀ (a b : By) (x : Nat), a.length = b.length → digB a → digB b → bytesBefore a b = true → accB x a < accB x b := by
  intro a
  induction a with
  | nil =>
    intro b x hl _ _ h
    cases b with
    | nil => simp [bytesBefore] at h
    | cons d b => cases hl
  | cons c a ih =>
    intro b x hl h1 h2 h
    cases b with
    | nil => cases hl
    | cons d b =>
      have e1 := h1 c (List.mem_cons_self ..)
      have e2 := h2 d (List.mem_cons_self ..)
      have g1 : digB a := fun z hz => h1 z (List.mem_cons_of_mem _ hz)
      have g2 : digB b := fun z hz => h2 z (List.mem_cons_of_mem _ hz)
      have gl : a.length = b.length := by simpa using hl
      simp only [bytesBefore, Bool.or_eq_true, Bool.and_eq_true, decide_eq_true_eq, beq_iff_eq] at h
      rcases h with h | ⟨rfl, h⟩
      · rw [UInt8.lt_iff_toNat_lt] at h
        exact accB_lt a b (10 * x + (c.toNat - 48)) (10 * x + (d.toNat - 48)) gl g1 g2 (by omega)
      exact ih b _ gl g1 g2 h
theorem nameB_dig {i : Int} (h : 0 ≤ i) : digB ((nameB i).drop 5) := by
  have e : (nameB i).drop 5 = Lib.repeatL [48] (13 - (Lib.itoa i).length) ++ Lib.itoa i := by
    unfold nameB
    rw [List.append_assoc]
    rfl
  rw [e]
  intro c hc
  rcases List.mem_append.1 hc with hc | hc
  · rw [repeatL_mem _ c hc]; decide
  have e2 : Lib.itoa i = Lib.decDigits i.toNat := by unfold Lib.itoa; rw [if_neg (by omega)]
  rw [e2] at hc
  have := (valB_dec _).2 c hc
  rw [UInt8.le_iff_toNat_le, UInt8.le_iff_toNat_le] at this
  exact this
theorem nameB_split (i : Int) : nameB i = preS ++ (nameB i).drop 5 := by
  have e : (nameB i).drop 5 = Lib.repeatL [48] (13 - (Lib.itoa i).length) ++ Lib.itoa i := by
    unfold nameB
    rw [List.append_assoc]
    rfl
  rw [e]
  unfold nameB preS
  rw [List.append_assoc]
theorem bb_append (p a b : Nm) : bytesBefore (p ++ a) (p ++ b) = bytesBefore a b := by
  induction p with
  | nil => rfl
  | cons x p ih =>
    have hx : (x < x) = False := eq_false (UInt8.lt_irrefl x)
    simp [bytesBefore, ih, hx]
theorem nameB_lt {i j : Int} (hi : 0 ≤ i) (hj : 0 ≤ j) (hi2 : i ≤ 1099511627776) (hj2 : j ≤ 1099511627776) (h : bytesBefore (nameB i) (nameB j) = true) : i < j := by
  rw [nameB_split i, nameB_split j, bb_append] at h
  have h1 := accB_bb _ _ 0 (by rw [List.length_drop, List.length_drop, nameB_len hi hi2, nameB_len hj hj2]) (nameB_dig hi) (nameB_dig hj) h
  have e1 := nameB_val hi
  have e2 := nameB_val hj
  change accB 0 ((nameB i).drop 5) < accB 0 ((nameB j).drop 5) at h1
  unfold valB at e1 e2
  unfold accB at h1
  omega
/-! ### the state that is kept -/
/-- A state's file stands there. -/
def ValT (T : Tab) (s : Sn) : Prop := checkS s = 0 ∧ tGet T (nameB s.i) = some (fileB s)
theorem check_i {s : Sn} (h : checkS s = 0) : 0 ≤ s.i ∧ s.i ≤ 1099511627776 := by
  have h1 := (checkS_ok h).1.1
  have h2 := (checkS_ok h).1.2
  exact ⟨by omega, h2⟩
theorem ValT.same {T : Tab} {s t : Sn} (h : ValT T s) (k : ValT T t) (e : s.i = t.i) : s = t := by
  have h2 := h.2
  rw [e, k.2] at h2
  injection h2 with h2
  exact (fileB_inj k.1 h.1 h2).symm
/-! ### opening where nothing fails -/
theorem tGet_del_ne {T : Tab} (h : tRise T) {n m : Nm} (hne : m ≠ n) : tGet (tDel T n) m = tGet T m := by
  cases hg : tGet T m with
  | some c => exact (tDel_rise h n).get (tDel_mem.2 ⟨tGet_mem hg, hne⟩)
  | none =>
    cases hg2 : tGet (tDel T n) m with
    | none => rfl
    | some c => exact absurd rfl (tGet_none hg _ (tDel_mem.1 (tGet_mem hg2)).1)
theorem dropsS_calm (k : Sn × Bool) : ∀ (l : List Nm) (d : DS), d.off = false → d.left = 0 → tRise d.seen → l.Pairwise (fun a b => a ≠ b) → (∀ f ∈ l, mayS f = true ∧ ∃ b, tGet d.seen f = some b) →
    (dropsS k l d).1 = 0 ∧ (dropsS k l d).2.off = false ∧ (dropsS k l d).2.left = 0 := by
  intro l
  induction l with
  | nil => intro d ho hl _ _ _; exact ⟨rfl, ho, hl⟩
  | cons f l ih =>
    intro d ho hl hr hp hm
    rw [List.pairwise_cons] at hp
    have h1 : dropsS k (f :: l) d = if goesS k f = true then (if (d.drop f).1 ≠ 0 then d.drop f else dropsS k l (d.drop f).2) else dropsS k l d := rfl
    rw [h1]
    split
    · obtain ⟨m1, b, m2⟩ := hm f (List.mem_cons_self ..)
      have hD := drop_calm ho hl m1 m2
      rw [hD]
      dsimp only
      rw [if_neg (by simp)]
      refine ih _ ho hl (tDel_rise hr f) hp.2 fun g hg => ?_
      obtain ⟨m3, c, m4⟩ := hm g (List.mem_cons_of_mem _ hg)
      refine ⟨m3, c, ?_⟩
      show tGet (tDel d.seen f) g = _
      rw [tGet_del_ne hr (fun e => hp.1 g hg e.symm)]
      exact m4
    exact ih d ho hl hr hp.2 fun g hg => hm g (List.mem_cons_of_mem _ hg)
theorem open_calm {d : DS} (ho : d.off = false) (hl : d.left = 0) (hr : tRise d.seen) (hm : ∀ p ∈ d.seen, mayS p.1 = true) : (openS d).1 = 0 := by
  have hli : d.list = d.seen.map Prod.fst := by unfold DS.list; rw [if_neg (by rw [ho]; simp)]
  obtain ⟨h1, h2, h3⟩ := dropsS_calm (kept d) d.list d ho hl hr (by
    rw [hli, List.pairwise_map]
    exact hr.ne) (fun f hf => by
    rw [hli] at hf
    obtain ⟨p, hp, rfl⟩ := List.mem_map.1 hf
    exact ⟨hm p hp, p.2, hr.get hp⟩)
  unfold openS
  rw [if_neg (by rw [h1]; simp), sync_calm h2 h3]
end Go.Proofs.YtjapeaoebjmpnaaGreatDoor

/- Wherever the power goes within a save: plain. -/
namespace Go.Proofs.YtjapeaoebjmpnaaGreatDoor
open Go.RowKit Go.Maps
set_option linter.unusedVariables false
set_option linter.unusedSimpArgs false

/-- All is as it was but for the file of a state that is not whole. -/
def TA (T0 T : Tab) : Prop := ∀ n, n ≠ freshS → tGet T n = tGet T0 n
/-- The new state's file is there; of what else there was a part. -/
def TB (T0 : Tab) (nm : Nm) (f : By) (T : Tab) : Prop := tGet T nm = some f ∧ ∀ n, n ≠ freshS → n ≠ nm → tGet T n = tGet T0 n ∨ tGet T n = none
def onF : ActS → Prop
  | .write n _ _ => n = freshS
  | .drop n => n = freshS
  | _ => False
def onO (nm : Nm) : ActS → Prop
  | .drop n => n ≠ nm
  | _ => False
theorem TA.run {T0 T : Tab} (h : TA T0 T) (hr : tRise T) {a : ActS} (ha : onF a) : TA T0 (a.run T) := by
  intro n hn
  cases a with
  | write m k b =>
    have ha : m = freshS := ha
    show tGet (tPut T m _) n = _
    rw [ha, tGet_put_ne hr hn]
    exact h n hn
  | trim m k => exact ha.elim
  | move m k => exact ha.elim
  | drop m =>
    have ha : m = freshS := ha
    show tGet (tDel T m) n = _
    rw [ha, tGet_del_ne hr hn]
    exact h n hn
theorem TB.run {T0 T : Tab} {nm : Nm} {f : By} (h : TB T0 nm f T) (hr : tRise T) {a : ActS} (ha : onO nm a) : TB T0 nm f (a.run T) := by
  cases a with
  | write m k b => exact ha.elim
  | trim m k => exact ha.elim
  | move m k => exact ha.elim
  | drop m =>
    have ha : m ≠ nm := ha
    refine ⟨?_, fun n h1 h2 => ?_⟩
    · show tGet (tDel T m) nm = _
      rw [tGet_del_ne hr (fun e => ha e.symm)]
      exact h.1
    show tGet (tDel T m) n = _ ∨ tGet (tDel T m) n = _
    by_cases e : n = m
    · rw [e]; exact .inr (tGet_del_same m)
    rw [tGet_del_ne hr e]
    exact h.2 n h1 h2
theorem runAll_keep {P : Tab → Prop} {Q : ActS → Prop} (hs : ∀ T a, P T → tRise T → Q a → P (a.run T)) : ∀ (l : List ActS) (T : Tab), (∀ a ∈ l, Q a) → tRise T → P T → P (runAll T l) ∧ tRise (runAll T l) := by
  intro l
  induction l with
  | nil => intro T _ hr h; exact ⟨h, hr⟩
  | cons a l ih =>
    intro T hq hr h
    exact ih (a.run T) (fun b hb => hq b (List.mem_cons_of_mem _ hb)) (ActS.run_rise hr a) (hs T a h hr (hq a (List.mem_cons_self ..)))
theorem lasts_all {Q : ActS → Prop} (hc : ∀ a q, Q a → Q (a.cut q)) {l : List ActS} (h : ∀ a ∈ l, Q a) (keep tear : Int) : ∀ a ∈ lastsS l keep tear, Q a := by
  rcases lastsS_split l keep tear with e | ⟨m, a, q, hm, ha, -, e⟩
  · rw [e]; intro a ha; cases ha
  rw [e]
  intro b hb
  rcases List.mem_append.1 hb with hb | hb
  · exact h b (List.mem_of_mem_take hb)
  rw [List.mem_singleton] at hb
  rw [hb]
  exact hc a q (h a (List.mem_of_getElem? ha))
theorem onF_cut (a : ActS) (q : Nat) (h : onF a) : onF (a.cut q) := by cases a <;> exact h
theorem onO_cut (nm : Nm) (a : ActS) (q : Nat) (h : onO nm a) : onO nm (a.cut q) := by cases a <;> exact h

structure DA (T0 : Tab) (d : DS) : Prop where
  rise : tRise d.last
  last : TA T0 d.last
  acts : ∀ a ∈ d.acts, onF a
structure DB (T0 : Tab) (nm : Nm) (f : By) (d : DS) : Prop where
  rise : tRise d.last
  last : TB T0 nm f d.last
  acts : ∀ a ∈ d.acts, onO nm a
theorem DA.lasts {T0 : Tab} {d : DS} (h : DA T0 d) (keep tear : Int) : TA T0 (runAll d.last (lastsS d.acts keep tear)) ∧ tRise (runAll d.last (lastsS d.acts keep tear)) :=
  runAll_keep (fun T a hT hr ha => hT.run hr ha) _ _ (lasts_all onF_cut h.acts keep tear) h.rise h.last
theorem DB.lasts {T0 : Tab} {nm : Nm} {f : By} {d : DS} (h : DB T0 nm f d) (keep tear : Int) : TB T0 nm f (runAll d.last (lastsS d.acts keep tear)) ∧ tRise (runAll d.last (lastsS d.acts keep tear)) :=
  runAll_keep (fun T a hT hr ha => hT.run hr ha) _ _ (lasts_all (onO_cut nm) h.acts keep tear) h.rise h.last
theorem DA.fall {T0 : Tab} {d : DS} (h : DA T0 d) (keep tear : Int) : DA T0 (d.fall keep tear) := ⟨(h.lasts keep tear).2, (h.lasts keep tear).1, fun a ha => by cases ha⟩
theorem DB.fall {T0 : Tab} {nm : Nm} {f : By} {d : DS} (h : DB T0 nm f d) (keep tear : Int) : DB T0 nm f (d.fall keep tear) := ⟨(h.lasts keep tear).2, (h.lasts keep tear).1, fun a ha => by cases ha⟩
theorem DA.hit {T0 : Tab} {d : DS} (h : DA T0 d) : DA T0 d.hit.2 := by
  unfold DS.hit
  split
  · exact h
  exact ⟨h.rise, h.last, h.acts⟩
theorem DB.hit {T0 : Tab} {nm : Nm} {f : By} {d : DS} (h : DB T0 nm f d) : DB T0 nm f d.hit.2 := by
  unfold DS.hit
  split
  · exact h
  exact ⟨h.rise, h.last, h.acts⟩
theorem DA.does {T0 : Tab} {d : DS} (h : DA T0 d) {a : ActS} (ha : onF a) : DA T0 (d.does a).2 := by
  have h1 : DA T0 { d with seen := a.run d.seen, acts := d.acts ++ [a] } := ⟨h.rise, h.last, fun b hb => by
    rcases List.mem_append.1 hb with hb | hb
    · exact h.acts b hb
    rw [List.mem_singleton] at hb; rw [hb]; exact ha⟩
  unfold DS.does
  dsimp only
  split
  · exact h1.hit.fall _ _
  exact h1.hit
theorem DB.does {T0 : Tab} {nm : Nm} {f : By} {d : DS} (h : DB T0 nm f d) {a : ActS} (ha : onO nm a) : DB T0 nm f (d.does a).2 := by
  have h1 : DB T0 nm f { d with seen := a.run d.seen, acts := d.acts ++ [a] } := ⟨h.rise, h.last, fun b hb => by
    rcases List.mem_append.1 hb with hb | hb
    · exact h.acts b hb
    rw [List.mem_singleton] at hb; rw [hb]; exact ha⟩
  unfold DS.does
  dsimp only
  split
  · exact h1.hit.fall _ _
  exact h1.hit
theorem DA.write {T0 : Tab} {d : DS} (h : DA T0 d) (k : Int) (b : By) : DA T0 (d.write freshS k b).2 := by
  unfold DS.write
  split
  · split
    · exact h
    split
    · exact h
    exact h.does (a := .write freshS 0 b) rfl
  split
  · exact h
  split
  · exact h
  split
  · exact h
  exact h.does (a := .write freshS k.toNat b) rfl
theorem DA.drop {T0 : Tab} {d : DS} (h : DA T0 d) : DA T0 (d.drop freshS).2 := by
  unfold DS.drop
  split
  · exact h
  exact h.does (a := .drop freshS) rfl
theorem DB.drop {T0 : Tab} {nm : Nm} {f : By} {d : DS} (h : DB T0 nm f d) {o : Nm} (ho : o ≠ nm) : DB T0 nm f (d.drop o).2 := by
  unfold DS.drop
  split
  · exact h
  exact h.does (a := .drop o) ho
theorem DA.seen {T0 : Tab} {d : DS} (h : DA T0 d) (hok : d.Ok) : TA T0 d.seen := by
  rw [hok.seen]
  exact (runAll_keep (P := TA T0) (Q := onF) (fun T a hT hr ha => hT.run hr ha) _ _ h.acts h.rise h.last).1
theorem DA.sync {T0 : Tab} {d : DS} (h : DA T0 d) (hok : d.Ok) : DA T0 d.sync.2 := by
  unfold DS.sync
  split
  · exact h
  split
  · exact h.hit.fall _ _
  exact ⟨hok.run.1, h.seen hok, fun a ha => by cases ha⟩
theorem DA.lay {T0 : Tab} : ∀ (L : List By) (k : Nat) {d : DS}, DA T0 d → DA T0 (layS k L d).2 := by
  intro L
  induction L with
  | nil => intro k d h; exact h
  | cons b r ih =>
    intro k d h
    rw [layS_cons]
    split
    · exact h.write _ _
    exact ih _ (h.write _ _)

/-! ### calls that answer 0 -/
/-! ### Save -/
/-- What a save may have left: the files as they were, or the new state's with them. -/
def WholeS (T0 : Tab) (v : VS) (s : Sn) (r : Int × DS) : Prop :=
  (r.1 ≠ 22 → r.1 ≠ 0 → DA T0 r.2) ∧
  (r.1 = 0 → DB T0 (nameB s.i) (fileB s) r.2 ∧ checkS s = 0 ∧ (v.some = true → v.s.i < s.i)) ∧
  (r.1 = 22 → DA T0 r.2 ∨ (DB T0 (nameB s.i) (fileB s) r.2 ∧ checkS s = 0 ∧ (v.some = true → v.s.i < s.i)))
theorem WholeS.da {T0 : Tab} {v : VS} {s : Sn} {r : Int × DS} (h : DA T0 r.2) (h0 : r.1 ≠ 0) : WholeS T0 v s r := ⟨fun _ _ => h, fun e => absurd e h0, fun _ => .inl h⟩
/-! ### the disk at the end -/
/-- The power goes, and comes. -/
def DS.again (d : DS) (keep tear : Int) : DS := (((d.arm 0 0 0).2.start).crash keep tear).2.start
end Go.Proofs.YtjapeaoebjmpnaaGreatDoor
