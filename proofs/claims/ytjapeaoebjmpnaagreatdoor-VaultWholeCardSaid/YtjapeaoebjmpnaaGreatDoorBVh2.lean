/- Wherever the power goes within a save: plain. -/
import Derived.Test.YtjapeaoebjmpnaaGreatDoorBVh1
namespace Go.Proofs.YtjapeaoebjmpnaaGreatDoor
open Go.RowKit Go.Maps
set_option linter.unusedVariables false
set_option linter.unusedSimpArgs false

/-- All is as it was but for the file of a state that is not whole. -/
def TA (T0 T : Tab) : Prop := ∀ n, n ≠ freshS → tGet T n = tGet T0 n
/-- The new state's file is there; of what else there was a part. -/
def TB (T0 : Tab) (nm : Nm) (f : By) (T : Tab) : Prop := tGet T nm = some f ∧ ∀ n, n ≠ freshS → n ≠ nm → tGet T n = tGet T0 n ∨ tGet T n = none
def onF : ActS → Prop
  | .write n _ _ => n = freshS
  | .drop n => n = freshS
  | _ => False
def onO (nm : Nm) : ActS → Prop
  | .drop n => n ≠ nm
  | _ => False
theorem TA.run {T0 T : Tab} (h : TA T0 T) (hr : tRise T) {a : ActS} (ha : onF a) : TA T0 (a.run T) := by
  intro n hn
  cases a with
  | write m k b =>
    have ha : m = freshS := ha
    show tGet (tPut T m _) n = _
    rw [ha, tGet_put_ne hr hn]
    exact h n hn
  | trim m k => exact ha.elim
  | move m k => exact ha.elim
  | drop m =>
    have ha : m = freshS := ha
    show tGet (tDel T m) n = _
    rw [ha, tGet_del_ne hr hn]
    exact h n hn
theorem TB.run {T0 T : Tab} {nm : Nm} {f : By} (h : TB T0 nm f T) (hr : tRise T) {a : ActS} (ha : onO nm a) : TB T0 nm f (a.run T) := by
  cases a with
  | write m k b => exact ha.elim
  | trim m k => exact ha.elim
  | move m k => exact ha.elim
  | drop m =>
    have ha : m ≠ nm := ha
    refine ⟨?_, fun n h1 h2 => ?_⟩
    · show tGet (tDel T m) nm = _
      rw [tGet_del_ne hr (fun e => ha e.symm)]
      exact h.1
    · show tGet (tDel T m) n = _ ∨ tGet (tDel T m) n = _
      by_cases e : n = m
      · rw [e]; exact .inr (tGet_del_same m)
      · rw [tGet_del_ne hr e]
        exact h.2 n h1 h2
theorem runAll_keep {P : Tab → Prop} {Q : ActS → Prop} (hs : ∀ T a, P T → tRise T → Q a → P (a.run T)) : ∀ (l : List ActS) (T : Tab), (∀ a ∈ l, Q a) → tRise T → P T → P (runAll T l) ∧ tRise (runAll T l) := by
  intro l
  induction l with
  | nil => intro T _ hr h; exact ⟨h, hr⟩
  | cons a l ih =>
    intro T hq hr h
    exact ih (a.run T) (fun b hb => hq b (List.mem_cons_of_mem _ hb)) (ActS.run_rise hr a) (hs T a h hr (hq a (List.mem_cons_self ..)))
theorem lasts_all {Q : ActS → Prop} (hc : ∀ a q, Q a → Q (a.cut q)) {l : List ActS} (h : ∀ a ∈ l, Q a) (keep tear : Int) : ∀ a ∈ lastsS l keep tear, Q a := by
  rcases lastsS_split l keep tear with e | ⟨m, a, q, hm, ha, -, e⟩
  · rw [e]; intro a ha; cases ha
  · rw [e]
    intro b hb
    rcases List.mem_append.1 hb with hb | hb
    · exact h b (List.mem_of_mem_take hb)
    · rw [List.mem_singleton] at hb
      rw [hb]
      exact hc a q (h a (List.mem_of_getElem? ha))
theorem onF_cut (a : ActS) (q : Nat) (h : onF a) : onF (a.cut q) := by cases a <;> exact h
theorem onO_cut (nm : Nm) (a : ActS) (q : Nat) (h : onO nm a) : onO nm (a.cut q) := by cases a <;> exact h

structure DA (T0 : Tab) (d : DS) : Prop where
  rise : tRise d.last
  last : TA T0 d.last
  acts : ∀ a ∈ d.acts, onF a
structure DB (T0 : Tab) (nm : Nm) (f : By) (d : DS) : Prop where
  rise : tRise d.last
  last : TB T0 nm f d.last
  acts : ∀ a ∈ d.acts, onO nm a
theorem DA.lasts {T0 : Tab} {d : DS} (h : DA T0 d) (keep tear : Int) : TA T0 (runAll d.last (lastsS d.acts keep tear)) ∧ tRise (runAll d.last (lastsS d.acts keep tear)) :=
  runAll_keep (fun T a hT hr ha => hT.run hr ha) _ _ (lasts_all onF_cut h.acts keep tear) h.rise h.last
theorem DB.lasts {T0 : Tab} {nm : Nm} {f : By} {d : DS} (h : DB T0 nm f d) (keep tear : Int) : TB T0 nm f (runAll d.last (lastsS d.acts keep tear)) ∧ tRise (runAll d.last (lastsS d.acts keep tear)) :=
  runAll_keep (fun T a hT hr ha => hT.run hr ha) _ _ (lasts_all (onO_cut nm) h.acts keep tear) h.rise h.last
theorem DA.fall {T0 : Tab} {d : DS} (h : DA T0 d) (keep tear : Int) : DA T0 (d.fall keep tear) := ⟨(h.lasts keep tear).2, (h.lasts keep tear).1, fun a ha => by cases ha⟩
theorem DB.fall {T0 : Tab} {nm : Nm} {f : By} {d : DS} (h : DB T0 nm f d) (keep tear : Int) : DB T0 nm f (d.fall keep tear) := ⟨(h.lasts keep tear).2, (h.lasts keep tear).1, fun a ha => by cases ha⟩
theorem DA.hit {T0 : Tab} {d : DS} (h : DA T0 d) : DA T0 d.hit.2 := by
  unfold DS.hit
  split
  · exact h
  · exact ⟨h.rise, h.last, h.acts⟩
theorem DB.hit {T0 : Tab} {nm : Nm} {f : By} {d : DS} (h : DB T0 nm f d) : DB T0 nm f d.hit.2 := by
  unfold DS.hit
  split
  · exact h
  · exact ⟨h.rise, h.last, h.acts⟩
theorem DA.does {T0 : Tab} {d : DS} (h : DA T0 d) {a : ActS} (ha : onF a) : DA T0 (d.does a).2 := by
  have h1 : DA T0 { d with seen := a.run d.seen, acts := d.acts ++ [a] } := ⟨h.rise, h.last, fun b hb => by
    rcases List.mem_append.1 hb with hb | hb
    · exact h.acts b hb
    · rw [List.mem_singleton] at hb; rw [hb]; exact ha⟩
  unfold DS.does
  dsimp only
  split
  · exact h1.hit.fall _ _
  · exact h1.hit
theorem DB.does {T0 : Tab} {nm : Nm} {f : By} {d : DS} (h : DB T0 nm f d) {a : ActS} (ha : onO nm a) : DB T0 nm f (d.does a).2 := by
  have h1 : DB T0 nm f { d with seen := a.run d.seen, acts := d.acts ++ [a] } := ⟨h.rise, h.last, fun b hb => by
    rcases List.mem_append.1 hb with hb | hb
    · exact h.acts b hb
    · rw [List.mem_singleton] at hb; rw [hb]; exact ha⟩
  unfold DS.does
  dsimp only
  split
  · exact h1.hit.fall _ _
  · exact h1.hit
theorem DA.write {T0 : Tab} {d : DS} (h : DA T0 d) (k : Int) (b : By) : DA T0 (d.write freshS k b).2 := by
  unfold DS.write
  split
  · split
    · exact h
    · split
      · exact h
      · exact h.does (a := .write freshS 0 b) rfl
  · split
    · exact h
    · split
      · exact h
      · split
        · exact h
        · exact h.does (a := .write freshS k.toNat b) rfl
theorem DA.drop {T0 : Tab} {d : DS} (h : DA T0 d) : DA T0 (d.drop freshS).2 := by
  unfold DS.drop
  split
  · exact h
  · exact h.does (a := .drop freshS) rfl
theorem DB.drop {T0 : Tab} {nm : Nm} {f : By} {d : DS} (h : DB T0 nm f d) {o : Nm} (ho : o ≠ nm) : DB T0 nm f (d.drop o).2 := by
  unfold DS.drop
  split
  · exact h
  · exact h.does (a := .drop o) ho
theorem DA.seen {T0 : Tab} {d : DS} (h : DA T0 d) (hok : d.Ok) : TA T0 d.seen := by
  rw [hok.seen]
  exact (runAll_keep (P := TA T0) (Q := onF) (fun T a hT hr ha => hT.run hr ha) _ _ h.acts h.rise h.last).1
theorem hit_last (d : DS) : d.hit.2.last = d.last ∧ d.hit.2.seen = d.seen ∧ d.hit.2.off = d.off ∧ d.hit.2.acts = d.acts := by
  unfold DS.hit
  split <;> exact ⟨rfl, rfl, rfl, rfl⟩
theorem DA.sync {T0 : Tab} {d : DS} (h : DA T0 d) (hok : d.Ok) : DA T0 d.sync.2 := by
  unfold DS.sync
  split
  · exact h
  · split
    · exact h.hit.fall _ _
    · exact ⟨hok.run.1, h.seen hok, fun a ha => by cases ha⟩
theorem DA.lay {T0 : Tab} : ∀ (L : List By) (k : Nat) {d : DS}, DA T0 d → DA T0 (layS k L d).2 := by
  intro L
  induction L with
  | nil => intro k d h; exact h
  | cons b r ih =>
    intro k d h
    rw [layS_cons]
    split
    · exact h.write _ _
    · exact ih _ (h.write _ _)

/-! ### calls that answer 0 -/
theorem does_zero {d : DS} {a : ActS} (h : (d.does a).1 = 0) : (d.does a).2.seen = a.run d.seen ∧ (d.does a).2.last = d.last ∧ (d.does a).2.off = d.off ∧ (d.does a).2.acts = d.acts ++ [a] := by
  obtain ⟨e1, e2, e3, e4⟩ := hit_last { d with seen := a.run d.seen, acts := d.acts ++ [a] }
  revert h
  unfold DS.does
  dsimp only
  split
  · intro h; cases h
  · intro _; exact ⟨e2, e1, e3, e4⟩
theorem does_no {d : DS} {a : ActS} (h : (d.does a).1 ≠ 0) : (d.does a).1 = 22 ∧ ∃ x : DS, x.last = d.last ∧ x.acts = d.acts ++ [a] ∧ (d.does a).2 = x.fall d.keep d.tear := by
  obtain ⟨e1, e2, e3, e4⟩ := hit_last { d with seen := a.run d.seen, acts := d.acts ++ [a] }
  revert h
  unfold DS.does
  dsimp only
  split
  · intro _; exact ⟨rfl, _, e1, e4, rfl⟩
  · intro h; exact absurd rfl h
theorem sync_zero {d : DS} (h : d.sync.1 = 0) : d.sync.2.seen = d.seen ∧ d.sync.2.last = d.seen ∧ d.sync.2.off = false ∧ d.sync.2.acts = [] ∧ d.off = false := by
  obtain ⟨e1, e2, e3, e4⟩ := hit_last d
  revert h
  unfold DS.sync
  split
  · intro h; cases h
  · rename_i ho
    split
    · intro h; cases h
    · intro _
      have ho : d.off = false := by simpa using ho
      exact ⟨e2, rfl, e3.trans ho, rfl, ho⟩
theorem sync_no {d : DS} (h : d.sync.1 ≠ 0) : d.sync.1 = 22 ∧ (d.sync.2 = d ∨ ∃ x : DS, x.last = d.last ∧ x.acts = d.acts ∧ d.sync.2 = x.fall d.keep d.tear) := by
  obtain ⟨e1, e2, e3, e4⟩ := hit_last d
  revert h
  unfold DS.sync
  split
  · intro _; exact ⟨rfl, .inl rfl⟩
  · split
    · intro _; exact ⟨rfl, .inr ⟨_, e1, e4, rfl⟩⟩
    · intro h; exact absurd rfl h
theorem write_zero_first {d : DS} (ho : d.off = false) (hg : tGet d.seen freshS = none) {b : By} (h : (d.write freshS 0 b).1 = 0) :
    tGet (d.write freshS 0 b).2.seen freshS = some b ∨ ¬ tRise d.seen := by
  by_cases hr : tRise d.seen
  · left
    have hf := find_none ho may_fresh hg
    revert h
    unfold DS.write
    rw [if_pos ⟨hf, rfl⟩]
    split
    · intro h; cases h
    · split
      · intro h; cases h
      · intro h
        rw [(does_zero h).1]
        have e : wrB (tOld d.seen freshS) 0 b = b := by unfold tOld; rw [hg]; unfold wrB; simp
        show tGet (tPut d.seen freshS (wrB (tOld d.seen freshS) 0 b)) freshS = _
        rw [e]
        exact tGet_put_same hr _ _
  · exact .inr hr
theorem write_zero_off {d : DS} {k : Int} {b : By} (h : (d.write freshS k b).1 = 0) : (d.write freshS k b).2.off = d.off := by
  revert h
  unfold DS.write
  split
  · split
    · intro h; cases h
    · split
      · intro h; cases h
      · intro h; exact (does_zero h).2.2.1
  · split
    · intro h; rename_i h1; exact absurd h h1
    · split
      · intro h; cases h
      · split
        · intro h; cases h
        · intro h; exact (does_zero h).2.2.1
theorem write_zero_more {d : DS} (ho : d.off = false) (hr : tRise d.seen) {pre : By} (hg : tGet d.seen freshS = some pre) {b : By} (h : (d.write freshS (pre.length : Int) b).1 = 0) :
    tGet (d.write freshS (pre.length : Int) b).2.seen freshS = some (pre ++ b) := by
  have hf := find_some ho may_fresh hg
  have ht : tOld d.seen freshS = pre := by unfold tOld; rw [hg]; rfl
  revert h
  unfold DS.write
  rw [if_neg (by rw [hf]; intro h; cases h.1), if_neg (by rw [hf]; simp), if_neg (by rw [ht]; omega)]
  split
  · intro h; cases h
  · intro h
    rw [(does_zero h).1]
    have e : wrB (tOld d.seen freshS) (pre.length : Int).toNat b = pre ++ b := by rw [ht, Int.toNat_natCast, wrB_end]
    show tGet (tPut d.seen freshS (wrB (tOld d.seen freshS) (pre.length : Int).toNat b)) freshS = _
    rw [e]
    exact tGet_put_same hr _ _
theorem layS_zero : ∀ (L : List By) (pre : By) (d : DS), d.Ok → d.off = false → tGet d.seen freshS = some pre → (layS pre.length L d).1 = 0 →
    (layS pre.length L d).2.off = false ∧ tGet (layS pre.length L d).2.seen freshS = some (pre ++ L.flatten) := by
  intro L
  induction L with
  | nil =>
    intro pre d hok ho hg h
    rw [List.flatten_nil, List.append_nil]
    exact ⟨ho, hg⟩
  | cons b r ih =>
    intro pre d hok ho hg h
    rw [layS_cons] at h ⊢
    split at h
    · rename_i h1; exact absurd h h1
    · rename_i h1
      rw [if_neg h1]
      have h1 := Decidable.not_not.1 h1
      have h2 := write_zero_more ho hok.run.1 hg h1
      have h3 := (write_zero_off h1).trans ho
      have hl : pre.length + b.length = (pre ++ b).length := by rw [List.length_append]
      rw [hl] at h ⊢
      have := ih (pre ++ b) _ (hok.write _ _ _) h3 h2 h
      rw [List.flatten_cons, ← List.append_assoc]
      exact this
theorem layS_zero_first {L : List By} (hL : L ≠ []) {d : DS} (hok : d.Ok) (ho : d.off = false) (hg : tGet d.seen freshS = none) (h : (layS 0 L d).1 = 0) :
    (layS 0 L d).2.off = false ∧ tGet (layS 0 L d).2.seen freshS = some L.flatten := by
  cases L with
  | nil => exact absurd rfl hL
  | cons b r =>
    rw [layS_cons] at h ⊢
    split at h
    · rename_i h1; exact absurd h h1
    · rename_i h1
      rw [if_neg h1]
      have h1 := Decidable.not_not.1 h1
      have h1 : (d.write freshS 0 b).1 = 0 := h1
      have h2 := (write_zero_first ho hg h1).resolve_right (fun h => h hok.run.1)
      have h3 := (write_zero_off h1).trans ho
      rw [Nat.zero_add] at h ⊢
      exact layS_zero r b _ (hok.write _ _ _) h3 h2 h

/-! ### Save -/
/-- What a save may have left: the files as they were, or the new state's with them. -/
def WholeS (T0 : Tab) (v : VS) (s : Sn) (r : Int × DS) : Prop :=
  (r.1 ≠ 22 → r.1 ≠ 0 → DA T0 r.2) ∧
  (r.1 = 0 → DB T0 (nameB s.i) (fileB s) r.2 ∧ checkS s = 0 ∧ (v.some = true → v.s.i < s.i)) ∧
  (r.1 = 22 → DA T0 r.2 ∨ (DB T0 (nameB s.i) (fileB s) r.2 ∧ checkS s = 0 ∧ (v.some = true → v.s.i < s.i)))
theorem WholeS.da {T0 : Tab} {v : VS} {s : Sn} {r : Int × DS} (h : DA T0 r.2) (h0 : r.1 ≠ 0) : WholeS T0 v s r := ⟨fun _ _ => h, fun e => absurd e h0, fun _ => .inl h⟩
theorem run_move_fresh {T : Tab} (hr : tRise T) {n : Nm} {f : By} (hg : tGet T freshS = some f) (hn : n ≠ freshS) {T0 : Tab} (hT : TA T0 T) :
    tGet ((ActS.move freshS n).run T) n = some f ∧ ∀ m, m ≠ freshS → m ≠ n → tGet ((ActS.move freshS n).run T) m = tGet T0 m := by
  have ht : tOld T freshS = f := by unfold tOld; rw [hg]; rfl
  refine ⟨?_, fun m h1 h2 => ?_⟩
  · show tGet (tPut (tDel T freshS) n (tOld T freshS)) n = _
    rw [tGet_put_same (tDel_rise hr _), ht]
  · show tGet (tPut (tDel T freshS) n (tOld T freshS)) m = _
    rw [tGet_put_ne (tDel_rise hr _) h2, tGet_del_ne hr h1]
    exact hT m h1
theorem lasts_one (a : ActS) (keep tear : Int) : lastsS [a] keep tear = [] ∨ ∃ q, lastsS [a] keep tear = [a.cut q] := by
  rcases lastsS_split [a] keep tear with e | ⟨m, b, q, hm, hb, -, e⟩
  · exact .inl e
  · have hm0 : m = 0 := by simpa using hm
    subst hm0
    injection hb with hb
    subst hb
    exact .inr ⟨q, by rw [e]; rfl⟩
/-- A fall with no act but the move. -/
theorem fall_move {T0 : Tab} {x d : DS} {n : Nm} {f : By} (hr : tRise d.seen) (hT : TA T0 d.seen) (hg : tGet d.seen freshS = some f) (hn : n ≠ freshS) (hx : x.last = d.seen) (ha : x.acts = [.move freshS n]) (keep tear : Int) :
    DA T0 (x.fall keep tear) ∨ DB T0 n f (x.fall keep tear) := by
  rcases lasts_one (.move freshS n) keep tear with e | ⟨q, e⟩
  · left
    have e2 : (x.fall keep tear).last = d.seen := by show runAll x.last (lastsS x.acts keep tear) = _; rw [ha, e, hx]; rfl
    exact ⟨by rw [e2]; exact hr, by rw [e2]; exact hT, fun a ha => by cases ha⟩
  · right
    have e2 : (x.fall keep tear).last = (ActS.move freshS n).run d.seen := by show runAll x.last (lastsS x.acts keep tear) = _; rw [ha, e, hx]; rfl
    obtain ⟨r1, r2⟩ := run_move_fresh hr hg hn hT
    exact ⟨by rw [e2]; exact ActS.run_rise hr _, by rw [e2]; exact ⟨r1, fun m h1 h2 => .inl (r2 m h1 h2)⟩, fun a ha => by cases ha⟩
theorem threeS_whole {T0 : Tab} {d : DS} (hok : d.Ok) (h : DA T0 d) (ho : d.off = false) {f : By} (hg : tGet d.seen freshS = some f) {n : Nm} (hm : mayS n = true) (hn : n ≠ freshS) :
    ((threeS d n).1 ≠ 0 → (threeS d n).1 = 22 ∧ (DA T0 (threeS d n).2 ∨ DB T0 n f (threeS d n).2)) ∧
    ((threeS d n).1 = 0 → DB T0 n f (threeS d n).2 ∧ (threeS d n).2.off = false ∧ ∀ m, m ≠ freshS → m ≠ n → tGet (threeS d n).2.seen m = tGet T0 m) := by
  unfold threeS
  split
  · rename_i h1
    refine ⟨fun _ => ⟨(sync_no h1).1, .inl (h.sync hok)⟩, fun e => absurd e h1⟩
  · rename_i h1
    have h1 := Decidable.not_not.1 h1
    obtain ⟨a1, a2, a3, a4, -⟩ := sync_zero h1
    have hs := h.sync hok
    have hoks := hok.sync
    have hT := h.seen hok
    have hr := hok.run.1
    generalize d.sync.2 = d1 at *
    have hg1 : tGet d1.seen freshS = some f := by rw [a1]; exact hg
    have hmv : d1.move freshS n = d1.does (.move freshS n) := by
      unfold DS.move
      rw [if_neg (by rw [find_some a3 may_fresh hg1]; simp), if_neg (by rw [hm]; simp)]
    have hokm := hoks.move freshS n
    rw [hmv] at hokm ⊢
    have hT1 : TA T0 d1.seen := by rw [a1]; exact hT
    have hr1 : tRise d1.seen := by rw [a1]; exact hr
    have hl1 : d1.last = d1.seen := by rw [a1, a2]
    split
    · rename_i h2
      refine ⟨fun _ => ?_, fun e => absurd e h2⟩
      obtain ⟨b1, x, b2, b3, b4⟩ := does_no h2
      refine ⟨b1, ?_⟩
      rw [b4]
      exact fall_move hr1 hT1 hg1 hn (b2.trans hl1) (by rw [b3, a4]; rfl) _ _
    · rename_i h2
      have h2 := Decidable.not_not.1 h2
      obtain ⟨b1, b2, b3, b4⟩ := does_zero h2
      generalize (d1.does (.move freshS n)).2 = d2 at *
      obtain ⟨r1, r2⟩ := run_move_fresh hr1 hg1 hn hT1
      refine ⟨fun h3 => ?_, fun h3 => ?_⟩
      · obtain ⟨c1, c2⟩ := sync_no h3
        refine ⟨c1, ?_⟩
        rcases c2 with c2 | ⟨x, c2, c3, c4⟩
        · have : d2.off = true := by
            revert h3
            unfold DS.sync
            have ho2 : d2.off = false := b3.trans a3
            intro h3
            exfalso
            unfold DS.sync at c2
            rw [if_neg (by rw [ho2]; simp)] at c2 h3
            split at c2
            · have := congrArg DS.off c2
              rw [ho2] at this
              cases this
            · rename_i h4
              rw [if_neg h4] at h3
              exact h3 rfl
          rw [b3.trans a3] at this
          cases this
        · rw [c4]
          exact fall_move hr1 hT1 hg1 hn (by rw [c2, b2, hl1]) (by rw [c3, b4, a4]; rfl) _ _
      · obtain ⟨c1, c2, c3, c4, -⟩ := sync_zero h3
        refine ⟨⟨?_, ?_, ?_⟩, c3, fun m e1 e2 => ?_⟩
        · rw [c2, b1]; exact ActS.run_rise hr1 _
        · rw [c2, b1]; exact ⟨r1, fun m e1 e2 => .inl (r2 m e1 e2)⟩
        · rw [c4]; intro a ha; cases ha
        · rw [c1, b1]; exact r2 m e1 e2
theorem saveS_whole {T0 : Tab} {v : VS} {s : Sn} (hok : v.d.Ok) (h : DA T0 v.d) (ho : v.d.off = false) (hf : tGet v.d.seen freshS = none) (hv : v.some = true → checkS v.s = 0 ∧ ∃ b, tGet T0 (nameB v.s.i) = some b) :
    WholeS T0 v s ((saveS v s).1, (saveS v s).2.d) := by
  unfold saveS
  split
  · rename_i h1; exact .da h h1
  · rename_i h1
    have h1 := Decidable.not_not.1 h1
    split
    · exact .da h (by show (51 : Int) ≠ 0; decide)
    · rename_i h2
      have hnew : v.some = true → v.s.i < s.i := fun e => by
        rcases Int.lt_or_le v.s.i s.i with h3 | h3
        · exact h3
        · exact absurd ⟨e, h3⟩ h2
      have hl := DA.lay (partsB s) 0 h
      have hokl := layS_ok (partsB s) 0 hok
      split
      · rename_i h3
        refine .da ?_ h3
        show DA T0 (if _ then _ else _)
        split
        · exact hl.drop.sync (hokl.drop _)
        · exact hl
      · rename_i h3
        have h3 := Decidable.not_not.1 h3
        obtain ⟨ho1, hg1⟩ := layS_zero_first (partsB_ne s) hok ho hf h3
        generalize (layS 0 (partsB s) v.d).2 = d1 at *
        have hi := check_i h1
        have hg1 : tGet d1.seen freshS = some (fileB s) := hg1
        obtain ⟨t1, t2⟩ := threeS_whole hokl hl ho1 hg1 (mayS_name hi.1 hi.2) (name_fresh hi.1 hi.2)
        split
        · rename_i h4
          obtain ⟨t3, t4⟩ := t1 h4
          refine ⟨fun e _ => absurd t3 e, fun e => absurd e h4, fun _ => ?_⟩
          rcases t4 with t4 | t4
          · exact .inl t4
          · exact .inr ⟨t4, h1, hnew⟩
        · rename_i h4
          have h4 := Decidable.not_not.1 h4
          obtain ⟨t3, t4, t5⟩ := t2 h4
          generalize (threeS d1 (nameB s.i)).2 = d2 at *
          split
          · rename_i hs
            obtain ⟨v1, b, v2⟩ := hv hs
            have hlt := hnew hs
            have hne : nameB v.s.i ≠ nameB s.i := fun e => by
              have := nameB_inj (check_i v1).1 hi.1 e
              omega
            have hfr := name_fresh (check_i v1).1 (check_i v1).2
            have hg2 : tGet d2.seen (nameB v.s.i) = some b := by rw [t5 _ hfr hne]; exact v2
            have hdb := t3.drop hne
            have hdr : d2.drop (nameB v.s.i) = d2.does (.drop (nameB v.s.i)) := by
              unfold DS.drop
              rw [if_neg (by rw [find_some t4 (mayS_name (check_i v1).1 (check_i v1).2) hg2]; simp)]
            refine ⟨fun e1 e2 => ?_, fun _ => ⟨hdb, h1, hnew⟩, fun _ => .inr ⟨hdb, h1, hnew⟩⟩
            rw [hdr] at e1 e2
            exact absurd (does_no e2).1 e1
          · exact ⟨fun _ e => absurd rfl e, fun _ => ⟨t3, h1, hnew⟩, fun _ => .inr ⟨t3, h1, hnew⟩⟩

/-! ### the disk at the end -/
/-- The power goes, and comes. -/
def DS.again (d : DS) (keep tear : Int) : DS := (((d.arm 0 0 0).2.start).crash keep tear).2.start
theorem again_eq {d : DS} (hok : d.Ok) (keep tear : Int) : d.again keep tear = ⟨false, 0, 0, 0, d.room, runAll d.last (lastsS d.acts keep tear), runAll d.last (lastsS d.acts keep tear), []⟩ := by
  unfold DS.again DS.arm
  split
  · rfl
  · rfl
theorem kept_TA {T0 : Tab} {d : DS} {s : Sn} {b : Bool} (ho : d.off = false) (hr : tRise d.seen) (h : TA T0 d.seen) (hT : T0 = if b = true then [(nameB s.i, fileB s)] else []) (hs : b = true → checkS s = 0) (hn : b = false → s = sn0) : kept d = (s, b) := by
  rcases kept_best ho hr with ⟨h1, h2⟩ | ⟨t, h1, h2, h3⟩
  · cases b with
    | false => rw [h1, hn rfl]
    | true =>
      refine absurd ⟨hs rfl, ?_⟩ (h2 s)
      rw [h _ (name_fresh (check_i (hs rfl)).1 (check_i (hs rfl)).2), hT, if_pos rfl]
      unfold tGet
      rw [List.find?_cons_of_pos (by simp)]
      rfl
  · have h4 := h1.2
    rw [h _ (name_fresh (check_i h1.1).1 (check_i h1.1).2), hT] at h4
    cases b with
    | false => rw [if_neg (by simp)] at h4; cases h4
    | true =>
      rw [if_pos rfl] at h4
      have h5 := tGet_mem h4
      rw [List.mem_singleton] at h5
      injection h5 with h5 h6
      rw [h2, fileB_inj h1.1 (hs rfl) h6]
theorem kept_TB {T0 : Tab} {d : DS} {s o : Sn} {b : Bool} (ho : d.off = false) (hr : tRise d.seen) (h : TB T0 (nameB s.i) (fileB s) d.seen) (hs : checkS s = 0) (hT : T0 = if b = true then [(nameB o.i, fileB o)] else []) (hb : b = true → checkS o = 0 ∧ o.i < s.i) : kept d = (s, true) := by
  have hv : ValT d.seen s := ⟨hs, h.1⟩
  rcases kept_best ho hr with ⟨h1, h2⟩ | ⟨t, h1, h2, h3⟩
  · exact absurd hv (h2 s)
  · have h4 := h3 s hv
    by_cases e : t.i = s.i
    · rw [h2, h1.same hv e]
    · exfalso
      have hne : nameB t.i ≠ nameB s.i := fun e2 => e (nameB_inj (check_i h1.1).1 (check_i hs).1 e2)
      rcases h.2 _ (name_fresh (check_i h1.1).1 (check_i h1.1).2) hne with h5 | h5
      · have h6 := h1.2
        rw [h5, hT] at h6
        cases b with
        | false => rw [if_neg (by simp)] at h6; cases h6
        | true =>
          rw [if_pos rfl] at h6
          have h7 := tGet_mem h6
          rw [List.mem_singleton] at h7
          injection h7 with h7 h8
          have := nameB_inj (check_i h1.1).1 (check_i (hb rfl).1).1 h7
          have := (hb rfl).2
          omega
      · rw [h1.2] at h5
        cases h5
theorem may_TB {T0 T : Tab} {nm : Nm} (hr : tRise T) (h : ∀ n, n ≠ freshS → n ≠ nm → tGet T n = tGet T0 n ∨ tGet T n = none) (hn : mayS nm = true) (h0 : ∀ p ∈ T0, mayS p.1 = true) : ∀ p ∈ T, mayS p.1 = true := fun p hp => by
  by_cases e1 : p.1 = freshS
  · rw [e1]; exact may_fresh
  · by_cases e2 : p.1 = nm
    · rw [e2]; exact hn
    · have hg := hr.get (n := p.1) (b := p.2) hp
      rcases h p.1 e1 e2 with h3 | h3
      · rw [hg] at h3
        exact h0 (p.1, p.2) (tGet_mem h3.symm)
      · rw [hg] at h3; cases h3
/-- What the disk has at the end; how it opens. -/
theorem whole_end {v : VS} {s : Sn} {r : Int × DS} (hw : WholeS v.d.seen v s r) (hok : r.2.Ok) (hseen : v.d.seen = if v.some = true then [(nameB v.s.i, fileB v.s)] else []) (hvs : v.some = true → checkS v.s = 0) (hn : v.some = false → v.s = sn0) (keep tear : Int) :
    (openS (r.2.again keep tear)).1 = 0 ∧
    ((r.1 ≠ 22 ∧ r.1 ≠ 0 ∧ kept (r.2.again keep tear) = (v.s, v.some)) ∨ (r.1 = 0 ∧ kept (r.2.again keep tear) = (s, true)) ∨ (r.1 = 22 ∧ (kept (r.2.again keep tear) = (v.s, v.some) ∨ kept (r.2.again keep tear) = (s, true)))) := by
  have hT0 : ∀ p ∈ v.d.seen, mayS p.1 = true := fun p hp => by
    rw [hseen] at hp
    split at hp
    · rename_i hs
      rw [List.mem_singleton] at hp
      rw [hp]
      exact mayS_name (check_i (hvs hs)).1 (check_i (hvs hs)).2
    · cases hp
  rw [again_eq hok]
  generalize hR : runAll r.2.last (lastsS r.2.acts keep tear) = R
  have hA : DA v.d.seen r.2 → (openS (⟨false, 0, 0, 0, r.2.room, R, R, []⟩ : DS)).1 = 0 ∧ kept (⟨false, 0, 0, 0, r.2.room, R, R, []⟩ : DS) = (v.s, v.some) := fun h => by
    obtain ⟨h1, h2⟩ := h.lasts keep tear
    rw [hR] at h1 h2
    exact ⟨open_calm rfl rfl h2 (may_TB (nm := freshS) h2 (fun n e1 _ => .inl (h1 n e1)) may_fresh hT0), kept_TA rfl h2 h1 hseen hvs hn⟩
  have hB : (DB v.d.seen (nameB s.i) (fileB s) r.2 ∧ checkS s = 0 ∧ (v.some = true → v.s.i < s.i)) → (openS (⟨false, 0, 0, 0, r.2.room, R, R, []⟩ : DS)).1 = 0 ∧ kept (⟨false, 0, 0, 0, r.2.room, R, R, []⟩ : DS) = (s, true) := fun ⟨h, hs, hlt⟩ => by
    obtain ⟨h1, h2⟩ := h.lasts keep tear
    rw [hR] at h1 h2
    exact ⟨open_calm rfl rfl h2 (may_TB h2 h1.2 (mayS_name (check_i hs).1 (check_i hs).2) hT0), kept_TB rfl h2 h1 hs hseen (fun e => ⟨hvs e, hlt e⟩)⟩
  by_cases e0 : r.1 = 0
  · obtain ⟨g1, g2⟩ := hB (hw.2.1 e0)
    exact ⟨g1, .inr (.inl ⟨e0, g2⟩)⟩
  · by_cases e22 : r.1 = 22
    · rcases hw.2.2 e22 with g | g
      · obtain ⟨g1, g2⟩ := hA g
        exact ⟨g1, .inr (.inr ⟨e22, .inl g2⟩)⟩
      · obtain ⟨g1, g2⟩ := hB g
        exact ⟨g1, .inr (.inr ⟨e22, .inr g2⟩)⟩
    · obtain ⟨g1, g2⟩ := hA (hw.1 e22 e0)
      exact ⟨g1, .inl ⟨e22, e0, g2⟩⟩
theorem whole_nms {v : VS} {s : Sn} {r : Int × DS} (hw : WholeS v.d.seen v s r) (hok : r.2.Ok) (hseen : v.d.seen = if v.some = true then [(nameB v.s.i, fileB v.s)] else []) (hvs : v.some = true → checkS v.s = 0) (keep tear : Int) : (r.2.again keep tear).Nms := by
  have hT0 : ∀ p ∈ v.d.seen, mayS p.1 = true := fun p hp => by
    rw [hseen] at hp
    split at hp
    · rename_i hs
      rw [List.mem_singleton] at hp
      rw [hp]
      exact mayS_name (check_i (hvs hs)).1 (check_i (hvs hs)).2
    · cases hp
  rw [again_eq hok]
  show tNm (runAll r.2.last (lastsS r.2.acts keep tear))
  have hA : DA v.d.seen r.2 → tNm (runAll r.2.last (lastsS r.2.acts keep tear)) := fun h p hp => by
    obtain ⟨h1, h2⟩ := h.lasts keep tear
    exact (mayS_len (may_TB (nm := freshS) h2 (fun n e1 _ => .inl (h1 n e1)) may_fresh hT0 p hp)).2
  have hB : (DB v.d.seen (nameB s.i) (fileB s) r.2 ∧ checkS s = 0 ∧ (v.some = true → v.s.i < s.i)) → tNm (runAll r.2.last (lastsS r.2.acts keep tear)) := fun ⟨h, hs, hlt⟩ p hp => by
    obtain ⟨h1, h2⟩ := h.lasts keep tear
    exact (mayS_len (may_TB h2 h1.2 (mayS_name (check_i hs).1 (check_i hs).2) hT0 p hp)).2
  by_cases e0 : r.1 = 0
  · exact hB (hw.2.1 e0)
  · by_cases e22 : r.1 = 22
    · rcases hw.2.2 e22 with g | g
      · exact hA g
      · exact hB g
    · exact hA (hw.1 e22 e0)
end Go.Proofs.YtjapeaoebjmpnaaGreatDoor
