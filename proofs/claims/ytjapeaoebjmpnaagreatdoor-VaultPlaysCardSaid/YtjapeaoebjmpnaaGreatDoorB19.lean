/- Names, tables, and what a save leads to where nothing fails: plain. -/
import Derived.Test.YtjapeaoebjmpnaaGreatDoorB16
import Derived.Test.YtjapeaoebjmpnaaGreatDoorB18
import Derived.Laws.MakeOwn
import Derived.Laws.OwnMore
namespace Go.Proofs.YtjapeaoebjmpnaaGreatDoor
open Go.RowKit Go.Maps
set_option linter.unusedVariables false
set_option linter.unusedSimpArgs false

/-! ### names -/
def valB (l : By) : Nat := l.foldl (fun a c => 10 * a + (c.toNat - 48)) 0
theorem valB_snoc (l : By) (c : UInt8) : valB (l ++ [c]) = 10 * valB l + (c.toNat - 48) := by unfold valB; rw [List.foldl_append]; rfl
theorem digit_nat {x : Nat} (h : x < 10) : (UInt8.ofNat (48 + x)).toNat = 48 + x := by
  rw [UInt8.toNat_ofNat']
  omega
theorem valB_dec : ∀ u : Nat, valB (Lib.decDigits u) = u ∧ ∀ c ∈ Lib.decDigits u, 48 ≤ c ∧ c ≤ 57 := by
  intro u
  induction u using Nat.strongRecOn with
  | _ u ih =>
    have dg : ∀ x : Nat, x < 10 → 48 ≤ UInt8.ofNat (48 + x) ∧ UInt8.ofNat (48 + x) ≤ 57 := fun x hx => by
      rw [UInt8.le_iff_toNat_le, UInt8.le_iff_toNat_le, digit_nat hx]
      exact ⟨by show 48 ≤ _; omega, by show _ ≤ 57; omega⟩
    rw [Lib.decDigits]
    split
    · rename_i h
      refine ⟨?_, fun c hc => ?_⟩
      · have := valB_snoc [] (UInt8.ofNat (48 + u))
        rw [List.nil_append] at this
        rw [this, digit_nat h]
        show 10 * 0 + _ = _
        omega
      rw [List.mem_singleton] at hc; rw [hc]; exact dg u h
    rename_i h
    obtain ⟨h1, h2⟩ := ih (u / 10) (by omega)
    refine ⟨?_, fun c hc => ?_⟩
    · rw [valB_snoc, h1, digit_nat (by omega)]; omega
    rcases List.mem_append.1 hc with hc | hc
    · exact h2 c hc
    rw [List.mem_singleton] at hc; rw [hc]; exact dg _ (by omega)
theorem valB_zeros : ∀ (k : Nat) (l : By), valB (Lib.repeatL [48] k ++ l) = valB l := by
  intro k
  induction k with
  | zero => intro l; rfl
  | succ k ih => intro l; exact ih l
theorem nameB_val {i : Int} (h : 0 ≤ i) : (valB ((nameB i).drop 5) : Int) = i := by
  have e : (nameB i).drop 5 = Lib.repeatL [48] (13 - (Lib.itoa i).length) ++ Lib.itoa i := by
    unfold nameB
    rw [List.append_assoc]
    rfl
  rw [e, valB_zeros]
  have e2 : Lib.itoa i = Lib.decDigits i.toNat := by unfold Lib.itoa; rw [if_neg (by omega)]
  rw [e2, (valB_dec _).1]
  omega
theorem nameB_inj {i j : Int} (hi : 0 ≤ i) (hj : 0 ≤ j) (h : nameB i = nameB j) : i = j := by
  rw [← nameB_val hi, ← nameB_val hj, h]
theorem repeatL_mem : ∀ (k : Nat) (c : UInt8), c ∈ Lib.repeatL [48] k → c = 48 := by
  intro k
  induction k with
  | zero => intro c h; cases h
  | succ k ih =>
    intro c h
    have h : c ∈ [48] ++ Lib.repeatL [48] k := h
    rcases List.mem_append.1 h with h | h
    · simpa using h
    exact ih c h
theorem okC_digit {c : UInt8} (h : 48 ≤ c ∧ c ≤ 57) : okC c = true := by
  unfold okC
  rw [Bool.or_eq_true, Bool.or_eq_true]
  exact .inl (.inr (by rw [Bool.and_eq_true]; exact ⟨decide_eq_true h.1, decide_eq_true h.2⟩))
theorem mayS_name {i : Int} (h0 : 0 ≤ i) (h1 : i ≤ 1099511627776) : mayS (nameB i) = true := by
  unfold mayS
  rw [nameB_len h0 h1]
  simp only [Bool.and_eq_true, List.all_eq_true]
  refine ⟨by decide, fun c hc => ?_⟩
  unfold nameB at hc
  rcases List.mem_append.1 hc with hc | hc
  · rcases List.mem_append.1 hc with hc | hc
    · revert hc
      have : ∀ c ∈ ([115, 110, 97, 112, 46] : By), okC c = true := by decide
      exact this c
    rw [repeatL_mem _ c hc]; decide
  refine okC_digit ?_
  have e2 : Lib.itoa i = Lib.decDigits i.toNat := by unfold Lib.itoa; rw [if_neg (by omega)]
  rw [e2] at hc
  exact (valB_dec _).2 c hc
theorem name_fresh {i : Int} (h0 : 0 ≤ i) (h1 : i ≤ 1099511627776) : nameB i ≠ freshS := fun e => by
  have := congrArg List.length e
  rw [nameB_len h0 h1] at this
  cases this

/-! ### tables -/
theorem tGet_put_same {T : Tab} (h : tRise T) (n : Nm) (b : By) : tGet (tPut T n b) n = some b := (tPut_rise h n b).get (tPut_mem.2 (.inl rfl))
theorem tGet_put_ne {T : Tab} (h : tRise T) {n m : Nm} (hne : m ≠ n) (b : By) : tGet (tPut T n b) m = tGet T m := by
  cases hg : tGet T m with
  | some c => exact (tPut_rise h n b).get (tPut_mem.2 (.inr ⟨tGet_mem hg, hne⟩))
  | none =>
    cases hg2 : tGet (tPut T n b) m with
    | none => rfl
    | some c =>
      rcases tPut_mem.1 (tGet_mem hg2) with e | ⟨e, -⟩
      · injection e with e _; exact absurd e hne
      exact absurd rfl (tGet_none hg _ e)
theorem tGet_del_same {T : Tab} (n : Nm) : tGet (tDel T n) n = none := by
  cases hg : tGet (tDel T n) n with
  | none => rfl
  | some c => exact absurd rfl (tDel_mem.1 (tGet_mem hg)).2
theorem tPut_put {T : Tab} (h : tRise T) (n : Nm) (a b : By) : tPut (tPut T n a) n b = tPut T n b := by
  refine tRise.ext (tPut_rise (tPut_rise h n a) n b) (tPut_rise h n b) fun p => ?_
  rw [tPut_mem, tPut_mem, tPut_mem]
  constructor
  · rintro (e | ⟨(e | e), e2⟩)
    · exact .inl e
    · rw [e] at e2; exact absurd rfl e2
    exact .inr e
  rintro (e | e)
  · exact .inl e
  exact .inr ⟨.inr e, e.2⟩
theorem tDel_put {T : Tab} (h : tRise T) {n : Nm} (hn : tGet T n = none) (b : By) : tDel (tPut T n b) n = T := by
  refine tRise.ext (tDel_rise (tPut_rise h n b) n) h fun p => ?_
  rw [tDel_mem, tPut_mem]
  constructor
  · rintro ⟨(e | e), e2⟩
    · rw [e] at e2; exact absurd rfl e2
    exact e.1
  intro e
  exact ⟨.inr ⟨e, tGet_none hn p e⟩, tGet_none hn p e⟩

/-! ### calls where nothing fails -/
theorem hit_calm {s : DS} (hl : s.left = 0) : s.hit = (false, s) := by unfold DS.hit; rw [if_pos hl]
theorem does_calm {s : DS} (hl : s.left = 0) (a : ActS) : s.does a = (0, { s with seen := a.run s.seen, acts := s.acts ++ [a] }) := by
  unfold DS.does
  rw [hit_calm (s := { s with seen := a.run s.seen, acts := s.acts ++ [a] }) hl]
  rfl
theorem sync_calm {s : DS} (ho : s.off = false) (hl : s.left = 0) : s.sync = (0, { s with last := s.seen, acts := [] }) := by
  unfold DS.sync
  rw [if_neg (by rw [ho]; simp), hit_calm hl]
  rfl
theorem find_some {s : DS} (ho : s.off = false) {n : Nm} (hm : mayS n = true) {b : By} (hg : tGet s.seen n = some b) : s.find n = 0 := by
  unfold DS.find
  rw [if_neg (by rw [ho]; simp), if_neg (by rw [hm]; simp), if_neg (by rw [hg]; simp)]
theorem find_none {s : DS} (ho : s.off = false) {n : Nm} (hm : mayS n = true) (hg : tGet s.seen n = none) : s.find n = 21 := by
  unfold DS.find
  rw [if_neg (by rw [ho]; simp), if_neg (by rw [hm]; simp), if_pos hg]
theorem may_fresh : mayS freshS = true := by decide
theorem wrB_end (o b : By) : wrB o o.length b = o ++ b := by
  unfold wrB
  rw [List.take_of_length_le (Nat.le_refl _), List.drop_of_length_le (by omega), List.append_nil]
theorem write_first {s : DS} (ho : s.off = false) (hl : s.left = 0) (hg : tGet s.seen freshS = none) (hn : s.seen.length < 4096) {b : By} (hr : (s.used + b.length : Int) ≤ s.room) :
    s.write freshS 0 b = (0, { s with seen := tPut s.seen freshS b, acts := s.acts ++ [.write freshS 0 b] }) := by
  unfold DS.write
  rw [if_pos ⟨find_none ho may_fresh hg, rfl⟩, if_neg (by omega), if_neg (by omega), does_calm hl]
  have e : wrB (tOld s.seen freshS) 0 b = b := by unfold tOld; rw [hg]; unfold wrB; simp
  show ((0 : Int), _) = _
  unfold ActS.run
  dsimp only
  rw [e]
theorem write_more {s : DS} (ho : s.off = false) (hl : s.left = 0) {pre : By} (hg : tGet s.seen freshS = some pre) {b : By} (hr : (s.used + b.length : Int) ≤ s.room) :
    s.write freshS (pre.length : Int) b = (0, { s with seen := tPut s.seen freshS (pre ++ b), acts := s.acts ++ [.write freshS pre.length b] }) := by
  have hf := find_some ho may_fresh hg
  have ht : tOld s.seen freshS = pre := by unfold tOld; rw [hg]; rfl
  unfold DS.write
  rw [if_neg (by rw [hf]; intro h; cases h.1), if_neg (by rw [hf]; simp), if_neg (by rw [ht]; omega), if_neg (by omega), does_calm hl]
  have e : wrB (tOld s.seen freshS) (pre.length : Int).toNat b = pre ++ b := by rw [ht, Int.toNat_natCast, wrB_end]
  show ((0 : Int), _) = _
  unfold ActS.run
  dsimp only
  rw [Int.toNat_natCast] at *
  rw [e]
theorem layS_more : ∀ (L : List By) (pre : By) (T : Tab) (d : DS), tRise T → d.off = false → d.left = 0 → d.seen = tPut T freshS pre → (d.used + L.flatten.length : Int) ≤ d.room →
    ∃ acts, layS pre.length L d = (0, { d with seen := tPut T freshS (pre ++ L.flatten), acts := acts }) ∧ tTot d.last + aTot acts = d.used + L.flatten.length := by
  intro L
  induction L with
  | nil =>
    intro pre T d hT ho hl hs hr
    refine ⟨d.acts, ?_, rfl⟩
    rw [List.flatten_nil, List.append_nil, ← hs]
    rfl
  | cons b r ih =>
    intro pre T d hT ho hl hs hr
    rw [List.flatten_cons, List.length_append] at hr
    have hg : tGet d.seen freshS = some pre := by rw [hs]; exact tGet_put_same hT _ _
    have hw := write_more ho hl hg (b := b) (by omega)
    rw [layS_cons, hw, if_neg (by simp)]
    have hu : DS.used { d with seen := tPut d.seen freshS (pre ++ b), acts := d.acts ++ [.write freshS pre.length b] } = d.used + b.length := by
      unfold DS.used
      rw [aTot_append]
      show tTot d.last + (aTot d.acts + aTot [ActS.write freshS pre.length b]) = _
      have : aTot [ActS.write freshS pre.length b] = b.length := by simp [aTot, ActS.data]
      omega
    obtain ⟨acts, h1, h2⟩ := ih (pre ++ b) T { d with seen := tPut d.seen freshS (pre ++ b), acts := d.acts ++ [.write freshS pre.length b] } hT ho hl (by show tPut d.seen freshS (pre ++ b) = _; rw [hs, tPut_put hT])
      (by rw [hu]; show _ ≤ d.room; omega)
    rw [List.length_append] at h1
    refine ⟨acts, ?_, ?_⟩
    · rw [h1, List.flatten_cons, List.append_assoc]
    rw [hu] at h2
    rw [List.flatten_cons, List.length_append]
    show tTot d.last + _ = _
    have h2 : tTot d.last + aTot acts = _ := h2
    omega
theorem layS_calm {L : List By} {d : DS} (hT : tRise d.seen) (ho : d.off = false) (hl : d.left = 0) (hg : tGet d.seen freshS = none) (hn : d.seen.length < 4096) (hL : L ≠ []) (hr : (d.used + L.flatten.length : Int) ≤ d.room) :
    ∃ acts, layS 0 L d = (0, { d with seen := tPut d.seen freshS L.flatten, acts := acts }) ∧ tTot d.last + aTot acts = d.used + L.flatten.length := by
  cases L with
  | nil => exact absurd rfl hL
  | cons b r =>
    rw [List.flatten_cons, List.length_append] at hr
    have hw := write_first ho hl hg hn (b := b) (by omega)
    rw [layS_cons, show ((0 : Nat) : Int) = 0 from rfl, hw, if_neg (by simp)]
    have hu : DS.used { d with seen := tPut d.seen freshS b, acts := d.acts ++ [.write freshS 0 b] } = d.used + b.length := by
      unfold DS.used
      rw [aTot_append]
      show tTot d.last + (aTot d.acts + aTot [ActS.write freshS 0 b]) = _
      have : aTot [ActS.write freshS 0 b] = b.length := by simp [aTot, ActS.data]
      omega
    obtain ⟨acts, h1, h2⟩ := layS_more r b d.seen { d with seen := tPut d.seen freshS b, acts := d.acts ++ [.write freshS 0 b] } hT ho hl rfl (by rw [hu]; show _ ≤ d.room; omega)
    refine ⟨acts, ?_, ?_⟩
    · rw [Nat.zero_add, h1, List.flatten_cons]
    rw [hu] at h2
    rw [List.flatten_cons, List.length_append]
    have h2 : tTot d.last + aTot acts = _ := h2
    omega
end Go.Proofs.YtjapeaoebjmpnaaGreatDoor

/- What Save and Open lead to where nothing fails: plain. -/
namespace Go.Proofs.YtjapeaoebjmpnaaGreatDoor
open Go.RowKit Go.Maps
set_option linter.unusedVariables false
set_option linter.unusedSimpArgs false

theorem move_calm {s : DS} (hT : tRise s.seen) (ho : s.off = false) (hl : s.left = 0) {n : Nm} (hm : mayS n = true) {f : By} (hg : tGet s.seen freshS = some f) :
    s.move freshS n = (0, { s with seen := tPut (tDel s.seen freshS) n f, acts := s.acts ++ [.move freshS n] }) := by
  unfold DS.move
  rw [if_neg (by rw [find_some ho may_fresh hg]; simp), if_neg (by rw [hm]; simp), does_calm hl]
  have ht : tOld s.seen freshS = f := by unfold tOld; rw [hg]; rfl
  show ((0 : Int), _) = _
  unfold ActS.run
  dsimp only
  rw [ht]
theorem drop_calm {s : DS} (ho : s.off = false) (hl : s.left = 0) {n : Nm} (hm : mayS n = true) {f : By} (hg : tGet s.seen n = some f) :
    s.drop n = (0, { s with seen := tDel s.seen n, acts := s.acts ++ [.drop n] }) := by
  unfold DS.drop
  rw [if_neg (by rw [find_some ho hm hg]; simp), does_calm hl]
  rfl
theorem threeS_calm {d : DS} {T : Tab} (hT : tRise T) (ho : d.off = false) (hl : d.left = 0) (hn : tGet T freshS = none) {f : By} (hs : d.seen = tPut T freshS f) {n : Nm} (hm : mayS n = true) :
    threeS d n = (0, { d with seen := tPut T n f, last := tPut T n f, acts := [] }) := by
  have h1 := sync_calm ho hl
  have hr : tRise d.seen := by rw [hs]; exact tPut_rise hT _ _
  have h2 := move_calm (s := { d with last := d.seen, acts := [] }) hr ho hl hm (f := f) (by show tGet d.seen freshS = _; rw [hs]; exact tGet_put_same hT _ _)
  have h3 := sync_calm (s := { d with seen := tPut (tDel d.seen freshS) n f, last := d.seen, acts := [] ++ [.move freshS n] }) ho hl
  unfold threeS
  rw [h1]
  dsimp only
  rw [if_neg (by simp), h2]
  dsimp only
  rw [if_neg (by simp), h3]
  have e : tPut (tDel d.seen freshS) n f = tPut T n f := by rw [hs, tDel_put hT hn]
  rw [e]

/-- A vault whose disk has its state's file alone; K: more than all that lasts. -/
structure Calm (v : VS) (K : Nat) : Prop where
  ok : v.d.Ok
  off : v.d.off = false
  left : v.d.left = 0
  seen : v.d.seen = if v.some = true then [(nameB v.s.i, fileB v.s)] else []
  last : v.d.used ≤ K
  acts : v.d.acts.length ≤ 1
  s : v.some = true → checkS v.s = 0
theorem one_rise (x : Nm × By) : tRise [x] := List.pairwise_singleton _ _
theorem Calm.rise {v : VS} {K : Nat} (h : Calm v K) : tRise v.d.seen := h.ok.run.1
theorem Calm.fresh {v : VS} {K : Nat} (h : Calm v K) : tGet v.d.seen freshS = none := by
  rw [h.seen]
  split
  · rename_i hs
    obtain ⟨⟨k1, k2⟩, -⟩ := checkS_ok (h.s hs)
    unfold tGet
    rw [List.find?_cons_of_neg (by simpa using name_fresh (i := v.s.i) (by omega) k2)]
    rfl
  rfl
theorem partsB_ne (s : Sn) : partsB s ≠ [] := by unfold partsB rowsS; simp
/-- What Save leads to. -/
theorem save_calm {v : VS} {K : Nat} {s : Sn} (h : Calm v K) (hs : checkS s = 0) (hn : v.some = true → v.s.i < s.i) (hr : (K + (fileB s).length : Int) ≤ v.d.room) :
    ∃ d', saveS v s = (0, ⟨s, true, d'⟩) ∧ Calm ⟨s, true, d'⟩ ((fileB s).length + (if v.some = true then (fileB v.s).length else 0)) ∧ d'.room = v.d.room ∧ (v.some = false → d'.acts = [] ∧ d'.last = d'.seen) := by
  obtain ⟨⟨k1, k2⟩, -⟩ := checkS_ok hs
  have hlast := h.last
  obtain ⟨acts, hL, hu⟩ := layS_calm (L := partsB s) h.rise h.off h.left h.fresh (by rw [h.seen]; split <;> simp) (partsB_ne s) (by show (v.d.used + (fileB s).length : Int) ≤ _; omega)
  have hf : (partsB s).flatten = fileB s := rfl
  rw [hf] at hL hu
  have h3 := threeS_calm (d := { v.d with seen := tPut v.d.seen freshS (fileB s), acts := acts }) h.rise h.off h.left h.fresh rfl (mayS_name (i := s.i) (by omega) k2)
  have hokL := layS_ok (partsB s) 0 h.ok
  have hok3 := threeS_ok (nameB s.i) hokL
  rw [hL] at hok3
  dsimp only at hok3
  rw [h3] at hok3
  dsimp only at hok3
  unfold saveS
  rw [if_neg (by rw [hs]; simp), if_neg (by rintro ⟨h1, h2⟩; have := hn h1; omega), if_neg (by rw [hL]; simp), hL]
  dsimp only
  rw [h3, if_neg (by simp)]
  dsimp only
  cases hv : v.some with
  | false =>
    have hseen : v.d.seen = [] := by rw [h.seen, hv]; rfl
    rw [hseen] at hok3 ⊢
    refine ⟨_, if_neg (by simp), ⟨hok3, h.off, h.left, rfl, ?_, Nat.zero_le _, fun _ => hs⟩, rfl, fun _ => ⟨rfl, rfl⟩⟩
    show tTot (tPut [] (nameB s.i) (fileB s)) + aTot [] ≤ _
    simp [tPut, tDel, tIns, tTot, aTot]
  | true =>
    obtain ⟨⟨j1, j2⟩, -⟩ := checkS_ok (h.s hv)
    have hlt := hn hv
    have hne : nameB v.s.i ≠ nameB s.i := fun e => by have := nameB_inj (by omega) (by omega) e; omega
    have hseen : v.d.seen = [(nameB v.s.i, fileB v.s)] := by rw [h.seen, hv]; rfl
    rw [hseen] at hok3 ⊢
    have hg : tGet (tPut [(nameB v.s.i, fileB v.s)] (nameB s.i) (fileB s)) (nameB v.s.i) = some (fileB v.s) := by
      rw [tGet_put_ne (one_rise _) hne]
      unfold tGet
      rw [List.find?_cons_of_pos (by simp)]
      rfl
    have hD := drop_calm (s := { v.d with seen := tPut [(nameB v.s.i, fileB v.s)] (nameB s.i) (fileB s), last := tPut [(nameB v.s.i, fileB v.s)] (nameB s.i) (fileB s), acts := [] }) h.off h.left (mayS_name (i := v.s.i) (by omega) j2) hg
    have hok5 := hok3.drop (nameB v.s.i)
    rw [hD] at hok5
    rw [hD]
    dsimp only at hok5 ⊢
    refine ⟨_, if_pos rfl, ⟨hok5, h.off, h.left, ?_, ?_, by show ([] ++ [ActS.drop (nameB v.s.i)]).length ≤ 1; simp, fun _ => hs⟩, rfl, fun e => by cases e⟩
    · show tDel (tPut [(nameB v.s.i, fileB v.s)] (nameB s.i) (fileB s)) (nameB v.s.i) = _
      refine tRise.ext (tDel_rise (tPut_rise (one_rise _) _ _) _) (one_rise _) fun p => ?_
      rw [tDel_mem, tPut_mem, List.mem_singleton]
      constructor
      · rintro ⟨(e | ⟨e, -⟩), e2⟩
        · rw [e]; exact List.mem_singleton.2 rfl
        rw [e] at e2; exact absurd rfl e2
      intro e
      have e := List.mem_singleton.1 e
      rw [e]
      exact ⟨.inl rfl, fun e => hne e.symm⟩
    show tTot (tPut [(nameB v.s.i, fileB v.s)] (nameB s.i) (fileB s)) + aTot ([] ++ [ActS.drop (nameB v.s.i)]) ≤ _
    have h6 := tTot_put [(nameB v.s.i, fileB v.s)] (nameB s.i) (fileB s)
    have h7 : tTot [(nameB v.s.i, fileB v.s)] = (fileB v.s).length := by simp [tTot]
    have h8 : aTot ([] ++ [ActS.drop (nameB v.s.i)]) = 0 := by simp [aTot, ActS.data]
    rw [if_pos rfl]
    omega
/-- A disk that was opened, and had nothing. -/
theorem open_new (room : Int) : openS (DS.new room) = (0, DS.new room) ∧ kept (DS.new room) = (sn0, false) := ⟨rfl, rfl⟩
theorem calm_new {room : Int} (h0 : 0 ≤ room) (h1 : room ≤ 16777216) : Calm ⟨sn0, false, DS.new room⟩ 0 :=
  ⟨DS.new_ok room h0 h1, rfl, rfl, rfl, by show tTot [] + aTot [] ≤ 0; simp [tTot, aTot], Nat.zero_le _, fun h => by cases h⟩
theorem dropsS_one (k : Sn × Bool) (f : Nm) (d : DS) : dropsS k [f] d = if goesS k f = true then (if (d.drop f).1 ≠ 0 then d.drop f else (0, (d.drop f).2)) else (0, d) := rfl
/-- A disk that was opened, and had a state's file. -/
theorem open_one {d : DS} (ho : d.off = false) (hl : d.left = 0) {s : Sn} (hs : checkS s = 0) (hsn : d.seen = [(nameB s.i, fileB s)]) : openS d = (0, { d with last := d.seen, acts := [] }) ∧ kept d = (s, true) := by
  obtain ⟨⟨k1, k2⟩, -⟩ := checkS_ok hs
  have hlist : d.list = [nameB s.i] := by unfold DS.list; rw [if_neg (by rw [ho]; simp), hsn]; rfl
  have hg : tGet d.seen (nameB s.i) = some (fileB s) := by rw [hsn]; unfold tGet; rw [List.find?_cons_of_pos (by simp)]; rfl
  have hread : d.read (nameB s.i) = (fileB s, 0) := by
    unfold DS.read
    rw [if_neg (by rw [find_some ho (mayS_name (by omega) k2) hg]; simp)]
    unfold tOld
    rw [hg]; rfl
  have hk : kept d = (s, true) := by
    unfold kept
    rw [hlist]
    show keepS d (sn0, false) (nameB s.i) = _
    unfold keepS
    rw [if_pos (isSnap_name _), hread, readS_ok hs]
    dsimp only
    rw [if_pos rfl]
  refine ⟨?_, hk⟩
  have hd : dropsS (s, true) [nameB s.i] d = (0, d) := by
    rw [dropsS_one]
    unfold goesS
    simp
  unfold openS
  rw [hk, hlist, hd, if_neg (by simp)]
  exact sync_calm ho hl
end Go.Proofs.YtjapeaoebjmpnaaGreatDoor

/- The walks of the law's one and begun. -/
namespace Go.Proofs.YtjapeaoebjmpnaaGreatDoor
open Go.RowKit Go.Maps
set_option linter.unusedVariables false
set_option linter.unusedSimpArgs false
attribute [local go_sem] bmax2 bmin2 bmax_two bmin_two

theorem isF_block {w : World} {b : Nat} {S : List Int} {cur : Array Value} {t : TypeId} {z : Nat × Nat} (h : w.heap[b]? = some (.cells cur t z)) (hS : cur.toList = S.map (Value.int .i64)) (hin : ∀ x ∈ S, In64 x) (hl : S.length ≤ 1000000000000) : IsF (fun q => q = b) w (some ⟨b, 0, none⟩) S.length S.length S := by
  refine ⟨rfl, Nat.le_refl _, ⟨by unfold maxLen; omega, by omega⟩, (fun e => by cases e), hin, fun p hp => ?_⟩
  cases hp
  refine ⟨fun _ => rfl, fun k hk => ⟨rfl, ?_⟩⟩
  unfold World.cell?
  simp only [h, Nat.zero_add]
  have e := congrArg (fun l => l[k]?) hS
  simp only [List.getElem?_map, List.getElem?_eq_getElem hk, Option.map_some] at e
  rw [← e]
  simp [Array.getElem?_toList]
def oneS (i : Int) (n : Nat) : Sn := ⟨i, 1, [0, 1], List.replicate n 0⟩
theorem run_bytes (w : World) (n : Nat) (hn : n ≤ 1000000000000) : (Instr.makeSlice 23 (.int .i64 (n : Int)) (.int .i64 (n : Int))).run Tryz.prog w = .ok (.slice (some ⟨w.heap.size, 0, none⟩) n n) (w.alloc (.cells (madeCells #[.int .u8 0] n) 5)) := by
  obtain ⟨i, hi, hz, hz1, hz2⟩ := info_parts info_u8
  have := run_make (P := Tryz.prog) w 23 5 i _ Tryz.underlying23 hi hz .i64 .i64 (n : Int) (n : Int) (by omega) (Int.le_refl _) (by rw [hz2]; omega) (by omega)
  rw [this, hz1]
  simp [Value.cells]
theorem by_made (w : World) (n : Nat) (hn : n ≤ 1000000000000) : ByF (fun q => q = w.heap.size) (w.alloc (.cells (madeCells #[.int .u8 0] n) 5)) (some ⟨w.heap.size, 0, none⟩) n n (List.replicate n 0) := by
  have := by_block (S := List.replicate n 0) (c := n) (i := 0) (heap_alloc_new w (.cells (madeCells #[.int .u8 0] n) 5)) (by
    rw [toList_madeCells_one]
    simp [u8s]) (by simp) (by unfold maxLen; simp; omega)
  simpa using this

set_option maxHeartbeats 4000000 in
theorem one_any (w : World) (i : Int) (hi : In64 i) (n : Nat) (hn : n ≤ 1000000000000) :
    Calls Tryz.prog 42 #[.int .i64 i, .int .i64 (n : Int)] w (fun e w' => ∃ v, e = .returned v ∧ SnV (fun q => w.heap.size ≤ q ∧ q < w'.heap.size) w' v (oneS i n) ∧ Ext w w') := by
  have hrun := fun W => run_bytes W n hn
  go_enter Tryz.func42, Tryz.ntmps42
  go_wp2
  have e1 := heap_alloc_new w (.cells #[.int .i64 i, .int .i64 1, .slice (some ⟨w.heap.size + 1, 0, none⟩) 2 2, .slice (some ⟨w.heap.size + 1 + 1, 0, none⟩) n n] 25)
  have z1 : (w.alloc (.cells #[.int .i64 i, .int .i64 1, .slice (some ⟨w.heap.size + 1, 0, none⟩) 2 2, .slice (some ⟨w.heap.size + 1 + 1, 0, none⟩) n n] 25)).heap.size = w.heap.size + 1 := World.size_alloc ..
  have x1 := ext_alloc w (.cells #[.int .i64 i, .int .i64 1, .slice (some ⟨w.heap.size + 1, 0, none⟩) 2 2, .slice (some ⟨w.heap.size + 1 + 1, 0, none⟩) n n] 25)
  generalize w.alloc (.cells #[.int .i64 i, .int .i64 1, .slice (some ⟨w.heap.size + 1, 0, none⟩) 2 2, .slice (some ⟨w.heap.size + 1 + 1, 0, none⟩) n n] 25) = W1 at *
  have e2 := heap_alloc_new W1 (.cells #[.int .i64 0, .int .i64 1] 3)
  have z2 : (W1.alloc (.cells #[.int .i64 0, .int .i64 1] 3)).heap.size = W1.heap.size + 1 := World.size_alloc ..
  have x2 := ext_alloc W1 (.cells #[.int .i64 0, .int .i64 1] 3)
  generalize W1.alloc (.cells #[.int .i64 0, .int .i64 1] 3) = W2 at *
  have x3 := ext_alloc W2 (.cells (madeCells #[.int .u8 0] n) 5)
  have b3 := by_made W2 n hn
  have z3 : (W2.alloc (.cells (madeCells #[.int .u8 0] n) 5)).heap.size = W2.heap.size + 1 := World.size_alloc ..
  generalize W2.alloc (.cells (madeCells #[.int .u8 0] n) 5) = W3 at *
  have x23 := x2.trans' x3
  have e1' := (x23.block w.heap.size (by omega)).trans e1
  have e2' := (x3.block W1.heap.size (by omega)).trans e2
  refine bodyPost_ret_by (results_cell_row rfl _ _ w.heap.size _ _ _ (Tryz.prog.underlying 25).get! rfl e1' (by kernel_rfl) (by kernel_rfl) (by kernel_rfl)) rfl ⟨_, rfl, ?_, x1.trans' x23⟩
  have b2 := isF_block (S := [0, 1]) e2' rfl (fun x hx => by
    simp only [List.mem_cons, List.not_mem_nil, or_false] at hx
    rcases hx with rfl | rfl
    · exact (show In64 0 from ⟨by decide, by decide⟩)
    exact (show In64 1 from ⟨by decide, by decide⟩)) (by decide)
  refine ⟨some ⟨w.heap.size + 1, 0, none⟩, 2, 2, some ⟨w.heap.size + 1 + 1, 0, none⟩, n, n, rfl, hi, ⟨by show _ ≤ (1 : Int); decide, by show (1 : Int) ≤ _; decide⟩, ?_, ?_⟩
  · rw [z1] at b2
    exact b2.more fun q hq => ⟨by omega, by omega⟩
  rw [show W2.heap.size = w.heap.size + 1 + 1 by omega] at b3
  exact b3.more fun q hq => ⟨by omega, by omega⟩

def BegunPost (room : Int) (w : World) (e : Ending) (w' : World) : Prop :=
  ∃ dg g A, e = .returned (.tuple #[.pointer (some ⟨dg, 0, none⟩), .pointer (some ⟨g, 0, none⟩), .bool true]) ∧ VaAt A w' g dg ⟨sn0, false, DS.new room⟩ ∧ (∀ q, A q → w.heap.size ≤ q) ∧ Ext w w'
set_option maxHeartbeats 4000000 in
theorem begun_any {w : World} (hT : TabP w) {room : Int} (h0 : 0 ≤ room) (h1 : room ≤ 16777216) :
    Calls Tryz.prog 15 #[.int .i64 room] w (BegunPost room w) := by
  have HN := hid (New_any room w)
  have hok := DS.new_ok room h0 h1
  obtain ⟨ho, hk⟩ := open_new room
  have HOK := hid hok
  have HT := hid hT
  have HO := hid ho
  have HK := hid hk
  have HR := hid (show 0 ≤ room ∧ room ≤ 16777216 from ⟨h0, h1⟩)
  have hac : (DS.new room).acts.length = 0 := rfl
  have hnm : (DS.new room).Nms := fun p hp => by cases hp
  have HAC := hid hac
  have HNM := hid hnm
  clear hok ho hk hT h0 h1 hac hnm
  go_enter Tryz.func15, Tryz.ntmps15
  go_wp2_with fail
  refine Calls.mono HN.out ?_
  rintro e w1 (⟨-, -, dg, rfl, hd, hx1⟩ | ⟨hno, -⟩)
  · have HD := hid hd
    have HX1 := hid hx1
    have HOP := hid (Open_any hd HOK.out HNM.out (by rw [HAC.out]; omega) (HT.out.ext hx1) (fun h => by rcases h with h | h; exact h; have := HT.out.lt; omega))
    clear hd hx1
    go_wp2_with fail
    refine Calls.mono HOP.out ?_
    rintro e w2 hop
    rw [HO.out, HK.out] at hop
    rcases hop with ⟨h, -⟩ | ⟨-, g, rfl, hv, hf⟩
    · exact absurd rfl h
    have HV := hid hv
    have HF := hid hf
    clear hv hf
    go_wp2
    go_ret3
    refine ⟨dg, g, _, rfl, HV.out, fun q hq => ?_, ?_⟩
    · rcases hq with (hq | hq) | hq
      · exact hq.elim
      · exact hq.1
      have := HX1.out.size; omega
    exact ((Frm.of_ext HX1.out (fun _ => False)).trans HF.out fun q hq => by
      rcases hq with hq | hq
      · exact hq.elim
      exact .inr hq.1).ext
  exact absurd HR.out hno
end Go.Proofs.YtjapeaoebjmpnaaGreatDoor
