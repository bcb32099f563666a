/- Which state a disk's files have; opening where nothing fails: plain. -/
import Derived.Test.YtjapeaoebjmpnaaGreatDoorB19
namespace Go.Proofs.YtjapeaoebjmpnaaGreatDoor
open Go.RowKit Go.Maps
set_option linter.unusedVariables false
set_option linter.unusedSimpArgs false

/-! ### names rise as their numbers do -/
def digB (a : By) : Prop := ∀ c ∈ a, 48 ≤ c.toNat ∧ c.toNat ≤ 57
def accB (x : Nat) (a : By) : Nat := a.foldl (fun a c => 10 * a + (c.toNat - 48)) x
theorem accB_lt : ∀ (a b : By) (x y : Nat), a.length = b.length → digB a → digB b → x < y → accB x a < accB y b := by
  intro a
  induction a with
  | nil =>
    intro b x y hl _ _ h
    cases b with
    | nil => exact h
    | cons d b => cases hl
  | cons c a ih =>
    intro b x y hl h1 h2 h
    cases b with
    | nil => cases hl
    | cons d b =>
      have e1 := h1 c (List.mem_cons_self ..)
      have e2 := h2 d (List.mem_cons_self ..)
      exact ih b (10 * x + (c.toNat - 48)) (10 * y + (d.toNat - 48)) (by simpa using hl) (fun z hz => h1 z (List.mem_cons_of_mem _ hz)) (fun z hz => h2 z (List.mem_cons_of_mem _ hz)) (by omega)
theorem accB_bb : ∀ (a b : By) (x : Nat), a.length = b.length → digB a → digB b → bytesBefore a b = true → accB x a < accB x b := by
  intro a
  induction a with
  | nil =>
    intro b x hl _ _ h
    cases b with
    | nil => simp [bytesBefore] at h
    | cons d b => cases hl
  | cons c a ih =>
    intro b x hl h1 h2 h
    cases b with
    | nil => cases hl
    | cons d b =>
      have e1 := h1 c (List.mem_cons_self ..)
      have e2 := h2 d (List.mem_cons_self ..)
      have g1 : digB a := fun z hz => h1 z (List.mem_cons_of_mem _ hz)
      have g2 : digB b := fun z hz => h2 z (List.mem_cons_of_mem _ hz)
      have gl : a.length = b.length := by simpa using hl
      simp only [bytesBefore, Bool.or_eq_true, Bool.and_eq_true, decide_eq_true_eq, beq_iff_eq] at h
      rcases h with h | ⟨rfl, h⟩
      · rw [UInt8.lt_iff_toNat_lt] at h
        exact accB_lt a b (10 * x + (c.toNat - 48)) (10 * x + (d.toNat - 48)) gl g1 g2 (by omega)
      · exact ih b _ gl g1 g2 h
theorem nameB_dig {i : Int} (h : 0 ≤ i) : digB ((nameB i).drop 5) := by
  have e : (nameB i).drop 5 = Lib.repeatL [48] (13 - (Lib.itoa i).length) ++ Lib.itoa i := by
    unfold nameB
    rw [List.append_assoc]
    rfl
  rw [e]
  intro c hc
  rcases List.mem_append.1 hc with hc | hc
  · rw [repeatL_mem _ c hc]; decide
  · have e2 : Lib.itoa i = Lib.decDigits i.toNat := by unfold Lib.itoa; rw [if_neg (by omega)]
    rw [e2] at hc
    have := (valB_dec _).2 c hc
    rw [UInt8.le_iff_toNat_le, UInt8.le_iff_toNat_le] at this
    exact this
theorem nameB_split (i : Int) : nameB i = preS ++ (nameB i).drop 5 := by
  have e : (nameB i).drop 5 = Lib.repeatL [48] (13 - (Lib.itoa i).length) ++ Lib.itoa i := by
    unfold nameB
    rw [List.append_assoc]
    rfl
  rw [e]
  unfold nameB preS
  rw [List.append_assoc]
theorem bb_append (p a b : Nm) : bytesBefore (p ++ a) (p ++ b) = bytesBefore a b := by
  induction p with
  | nil => rfl
  | cons x p ih =>
    have hx : (x < x) = False := eq_false (UInt8.lt_irrefl x)
    simp [bytesBefore, ih, hx]
theorem nameB_lt {i j : Int} (hi : 0 ≤ i) (hj : 0 ≤ j) (hi2 : i ≤ 1099511627776) (hj2 : j ≤ 1099511627776) (h : bytesBefore (nameB i) (nameB j) = true) : i < j := by
  rw [nameB_split i, nameB_split j, bb_append] at h
  have h1 := accB_bb _ _ 0 (by rw [List.length_drop, List.length_drop, nameB_len hi hi2, nameB_len hj hj2]) (nameB_dig hi) (nameB_dig hj) h
  have e1 := nameB_val hi
  have e2 := nameB_val hj
  change accB 0 ((nameB i).drop 5) < accB 0 ((nameB j).drop 5) at h1
  unfold valB at e1 e2
  unfold accB at h1
  omega
theorem nameB_rise {i j : Int} (hi : 0 ≤ i) (hj : 0 ≤ j) (hi2 : i ≤ 1099511627776) (hj2 : j ≤ 1099511627776) (h : i < j) : bytesBefore (nameB i) (nameB j) = true := by
  cases hb : bytesBefore (nameB i) (nameB j) with
  | true => rfl
  | false =>
    have h2 := bb_total (fun e => by have := nameB_inj hi hj e; omega) hb
    have := nameB_lt hj hi hj2 hi2 h2
    omega

/-! ### the state that is kept -/
/-- A state's file stands there. -/
def ValT (T : Tab) (s : Sn) : Prop := checkS s = 0 ∧ tGet T (nameB s.i) = some (fileB s)
theorem check_i {s : Sn} (h : checkS s = 0) : 0 ≤ s.i ∧ s.i ≤ 1099511627776 := by
  have h1 := (checkS_ok h).1.1
  have h2 := (checkS_ok h).1.2
  exact ⟨by omega, h2⟩
theorem ValT.same {T : Tab} {s t : Sn} (h : ValT T s) (k : ValT T t) (e : s.i = t.i) : s = t := by
  have h2 := h.2
  rw [e, k.2] at h2
  injection h2 with h2
  exact (fileB_inj k.1 h.1 h2).symm
theorem read_val {d : DS} (ho : d.off = false) {s : Sn} (h : ValT d.seen s) : d.read (nameB s.i) = (fileB s, 0) := by
  unfold DS.read
  rw [if_neg (by rw [find_some ho (mayS_name (check_i h.1).1 (check_i h.1).2) h.2]; simp)]
  unfold tOld
  rw [h.2]; rfl
theorem keepS_yes {d : DS} (ho : d.off = false) {s : Sn} (h : ValT d.seen s) (k : Sn × Bool) : keepS d k (nameB s.i) = (s, true) := by
  unfold keepS
  rw [if_pos (isSnap_name _), read_val ho h, readS_ok h.1]
  dsimp only
  rw [if_pos rfl]
theorem keepS_no {d : DS} (ho : d.off = false) {f : Nm} (h : ∀ s, f = nameB s.i → ¬ ValT d.seen s) (k : Sn × Bool) : keepS d k f = k := by
  unfold keepS
  split
  · cases hr : readS (d.read f).1 with
    | none => rfl
    | some s =>
      dsimp only
      split
      · rename_i hf
        refine absurd ?_ (h s hf)
        obtain ⟨h1, h2⟩ := readS_some hr
        refine ⟨h1, ?_⟩
        unfold DS.read at h2
        split at h2
        · exact absurd h2 (fun e => by
            have h3 := congrArg List.length e
            have h4 : 0 < (fileB s).length := by
              unfold fileB partsB rowsS
              rw [List.map_cons, List.flatten_cons, List.length_append, recB_len]
              omega
            rw [List.length_nil] at h3
            omega)
        · rename_i hfz
          obtain ⟨-, -, b, hb⟩ := DS.find_zero (Decidable.not_not.1 hfz)
          rw [hf] at hb
          have h2 : fileB s = tOld d.seen f := h2
          rw [hf] at h2
          unfold tOld at h2
          rw [hb] at h2 ⊢
          rw [h2]; rfl
      · rfl
  · rfl
theorem keep_fold {d : DS} (ho : d.off = false) : ∀ (l : List Nm) (k : Sn × Bool), l.Pairwise (fun a b => bytesBefore a b = true) →
    (l.foldl (keepS d) k = k ∧ ∀ s, nameB s.i ∈ l → ¬ ValT d.seen s) ∨ ∃ s, ValT d.seen s ∧ nameB s.i ∈ l ∧ l.foldl (keepS d) k = (s, true) ∧ ∀ s', ValT d.seen s' → nameB s'.i ∈ l → s'.i ≤ s.i := by
  intro l
  induction l with
  | nil => intro k _; exact .inl ⟨rfl, fun s h => by cases h⟩
  | cons f l ih =>
    intro k hp
    rw [List.pairwise_cons] at hp
    rw [List.foldl_cons]
    have ih := ih (keepS d k f) hp.2
    by_cases hv : ∃ s, f = nameB s.i ∧ ValT d.seen s
    · obtain ⟨s, hf, hs⟩ := hv
      rcases ih with ⟨h1, h2⟩ | ⟨t, h1, h2, h3, h4⟩
      · refine .inr ⟨s, hs, by rw [hf]; exact List.mem_cons_self .., ?_, fun s' hs' hm => ?_⟩
        · rw [h1, hf, keepS_yes ho hs]
        · rcases List.mem_cons.1 hm with e | hm
          · rw [hf] at e
            have := nameB_inj (check_i hs'.1).1 (check_i hs.1).1 e
            omega
          · exact absurd hs' (h2 s' hm)
      · refine .inr ⟨t, h1, List.mem_cons_of_mem _ h2, h3, fun s' hs' hm => ?_⟩
        rcases List.mem_cons.1 hm with e | hm
        · have hb := hp.1 _ h2
          rw [← e] at hb
          have := nameB_lt (check_i hs'.1).1 (check_i h1.1).1 (check_i hs'.1).2 (check_i h1.1).2 hb
          omega
        · exact h4 s' hs' hm
    · have hk : keepS d k f = k := keepS_no ho (fun s hf hs => hv ⟨s, hf, hs⟩) k
      rw [hk] at ih ⊢
      rcases ih with ⟨h1, h2⟩ | ⟨t, h1, h2, h3, h4⟩
      · refine .inl ⟨h1, fun s hm hs => ?_⟩
        rcases List.mem_cons.1 hm with e | hm
        · exact hv ⟨s, e.symm, hs⟩
        · exact h2 s hm hs
      · refine .inr ⟨t, h1, List.mem_cons_of_mem _ h2, h3, fun s' hs' hm => ?_⟩
        rcases List.mem_cons.1 hm with e | hm
        · exact absurd ⟨s', e.symm, hs'⟩ hv
        · exact h4 s' hs' hm
theorem kept_best {d : DS} (ho : d.off = false) (hr : tRise d.seen) :
    (kept d = (sn0, false) ∧ ∀ s, ¬ ValT d.seen s) ∨ ∃ s, ValT d.seen s ∧ kept d = (s, true) ∧ ∀ s', ValT d.seen s' → s'.i ≤ s.i := by
  have hl : d.list = d.seen.map Prod.fst := by unfold DS.list; rw [if_neg (by rw [ho]; simp)]
  have hp : d.list.Pairwise (fun a b => bytesBefore a b = true) := by
    rw [hl, List.pairwise_map]
    exact hr
  have hm : ∀ s, ValT d.seen s → nameB s.i ∈ d.list := fun s hs => by
    rw [hl]
    exact List.mem_map.2 ⟨_, tGet_mem hs.2, rfl⟩
  rcases keep_fold ho d.list (sn0, false) hp with ⟨h1, h2⟩ | ⟨s, h1, h2, h3, h4⟩
  · exact .inl ⟨h1, fun s hs => h2 s (hm s hs) hs⟩
  · exact .inr ⟨s, h1, h3, fun s' hs' => h4 s' hs' (hm s' hs')⟩

/-! ### opening where nothing fails -/
theorem tGet_del_ne {T : Tab} (h : tRise T) {n m : Nm} (hne : m ≠ n) : tGet (tDel T n) m = tGet T m := by
  cases hg : tGet T m with
  | some c => exact (tDel_rise h n).get (tDel_mem.2 ⟨tGet_mem hg, hne⟩)
  | none =>
    cases hg2 : tGet (tDel T n) m with
    | none => rfl
    | some c => exact absurd rfl (tGet_none hg _ (tDel_mem.1 (tGet_mem hg2)).1)
theorem dropsS_calm (k : Sn × Bool) : ∀ (l : List Nm) (d : DS), d.off = false → d.left = 0 → tRise d.seen → l.Pairwise (fun a b => a ≠ b) → (∀ f ∈ l, mayS f = true ∧ ∃ b, tGet d.seen f = some b) →
    (dropsS k l d).1 = 0 ∧ (dropsS k l d).2.off = false ∧ (dropsS k l d).2.left = 0 := by
  intro l
  induction l with
  | nil => intro d ho hl _ _ _; exact ⟨rfl, ho, hl⟩
  | cons f l ih =>
    intro d ho hl hr hp hm
    rw [List.pairwise_cons] at hp
    have h1 : dropsS k (f :: l) d = if goesS k f = true then (if (d.drop f).1 ≠ 0 then d.drop f else dropsS k l (d.drop f).2) else dropsS k l d := rfl
    rw [h1]
    split
    · obtain ⟨m1, b, m2⟩ := hm f (List.mem_cons_self ..)
      have hD := drop_calm ho hl m1 m2
      rw [hD]
      dsimp only
      rw [if_neg (by simp)]
      refine ih _ ho hl (tDel_rise hr f) hp.2 fun g hg => ?_
      obtain ⟨m3, c, m4⟩ := hm g (List.mem_cons_of_mem _ hg)
      refine ⟨m3, c, ?_⟩
      show tGet (tDel d.seen f) g = _
      rw [tGet_del_ne hr (fun e => hp.1 g hg e.symm)]
      exact m4
    · exact ih d ho hl hr hp.2 fun g hg => hm g (List.mem_cons_of_mem _ hg)
theorem open_calm {d : DS} (ho : d.off = false) (hl : d.left = 0) (hr : tRise d.seen) (hm : ∀ p ∈ d.seen, mayS p.1 = true) : (openS d).1 = 0 := by
  have hli : d.list = d.seen.map Prod.fst := by unfold DS.list; rw [if_neg (by rw [ho]; simp)]
  obtain ⟨h1, h2, h3⟩ := dropsS_calm (kept d) d.list d ho hl hr (by
    rw [hli, List.pairwise_map]
    exact hr.ne) (fun f hf => by
    rw [hli] at hf
    obtain ⟨p, hp, rfl⟩ := List.mem_map.1 hf
    exact ⟨hm p hp, p.2, hr.get hp⟩)
  unfold openS
  rw [if_neg (by rw [h1]; simp), sync_calm h2 h3]
end Go.Proofs.YtjapeaoebjmpnaaGreatDoor
