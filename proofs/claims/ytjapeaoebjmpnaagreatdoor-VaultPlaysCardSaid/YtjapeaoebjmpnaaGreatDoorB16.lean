/- Names of files, rows of names: plain. -/
import Derived.Test.YtjapeaoebjmpnaaGreatDoorB15
namespace Go.Proofs.YtjapeaoebjmpnaaGreatDoor
open Go.RowKit Go.Maps
set_option linter.unusedVariables false
set_option linter.unusedSimpArgs false

/-- No name is long. -/
def tNm (T : Tab) : Prop := ∀ p ∈ T, p.1.length ≤ 32
theorem tNm_del {T : Tab} (h : tNm T) (n : Nm) : tNm (tDel T n) := fun p hp => h p (List.mem_filter.1 hp).1
theorem mem_ins {x p : Nm × By} : ∀ {T : Tab}, p ∈ tIns x T → p = x ∨ p ∈ T := by
  intro T
  induction T with
  | nil => intro h; simp only [tIns, List.mem_singleton] at h; exact .inl h
  | cons y r ih =>
    intro h
    unfold tIns at h
    split at h
    · rcases List.mem_cons.1 h with h | h
      · exact .inl h
      exact .inr h
    rcases List.mem_cons.1 h with h | h
    · exact .inr (by rw [h]; exact List.mem_cons_self ..)
    rcases ih h with h | h
    · exact .inl h
    exact .inr (List.mem_cons_of_mem _ h)
theorem tNm_put {T : Tab} (h : tNm T) {n : Nm} (hn : n.length ≤ 32) (b : By) : tNm (tPut T n b) := fun p hp => by
  rcases mem_ins hp with rfl | hp
  · exact hn
  exact tNm_del h n p hp
theorem ActS.run_nm {a : ActS} {T : Tab} (hf : a.Fits T) (h : tNm T) : tNm (a.run T) := by
  cases a with
  | write n k b => exact tNm_put h hf.1 _
  | trim n k => exact tNm_put h hf.1 _
  | move o n => exact tNm_put (tNm_del h o) hf.2.1 _
  | drop n => exact tNm_del h n
theorem runAll_nm : ∀ (l : List ActS) (T : Tab), fitsAll T l → tNm T → tNm (runAll T l) := by
  intro l
  induction l with
  | nil => intro T _ h; exact h
  | cons a l ih => intro T hf h; exact ih (a.run T) hf.2 (ActS.run_nm hf.1 h)
def DS.Nms (s : DS) : Prop := tNm s.last
theorem DS.Nms.seen {s : DS} (h : s.Nms) (hok : s.Ok) : tNm s.seen := by rw [hok.seen]; exact runAll_nm _ _ hok.fits h
theorem DS.Nms.fall {s : DS} (h : s.Nms) (hok : s.Ok) (keep tear : Int) : (s.fall keep tear).Nms := runAll_nm _ _ (fitsAll_lasts hok.fits keep tear).1 h
theorem DS.Nms.hit {s : DS} (h : s.Nms) : s.hit.2.Nms := by unfold DS.hit; split <;> exact h
theorem DS.Nms.does {s : DS} (h : s.Nms) (hok : s.Ok) (ho : s.off = false) {a : ActS} (ha : a.Fits s.seen) (hr : (a.data.length : Int) ≤ s.room - s.used) : (s.does a).2.Nms := by
  have h1 : DS.Nms { s with seen := a.run s.seen, acts := s.acts ++ [a] } := h
  have h2 := hok.add ho ha hr
  unfold DS.does
  dsimp only
  split
  · exact DS.Nms.fall h1.hit h2.hit _ _
  exact h1.hit
theorem DS.Nms.write {s : DS} (h : s.Nms) (hok : s.Ok) (n : Nm) (k : Int) (b : By) : (s.write n k b).2.Nms := by
  unfold DS.write
  split
  · rename_i h1
    obtain ⟨ho, hm, hg⟩ := DS.find_21 h1.1
    have hn : n.length ≤ 32 := by unfold mayS at hm; simp at hm; omega
    split
    · exact h
    split
    · exact h
    exact h.does hok ho (a := .write n 0 b) ⟨hn, Nat.zero_le _, fun _ => by omega⟩ (by simp only [ActS.data]; omega)
  split
  · exact h
  rename_i h1 h2
  obtain ⟨ho, hm, b0, hg⟩ := DS.find_zero (s := s) (n := n) (by simpa using h2)
  have hn : n.length ≤ 32 := by unfold mayS at hm; simp at hm; omega
  split
  · exact h
  split
  · exact h
  exact h.does hok ho (a := .write n k.toNat b) ⟨hn, by omega, fun e => by rw [hg] at e; cases e⟩ (by simp only [ActS.data]; omega)
theorem DS.Nms.move {s : DS} (h : s.Nms) (hok : s.Ok) (o n : Nm) : (s.move o n).2.Nms := by
  unfold DS.move
  split
  · exact h
  rename_i h2
  obtain ⟨ho, hm, b0, hg⟩ := DS.find_zero (s := s) (n := o) (by simpa using h2)
  have hn : o.length ≤ 32 := by unfold mayS at hm; simp at hm; omega
  split
  · exact h
  rename_i h3
  have hn2 : n.length ≤ 32 := by
    have h3 : mayS n = true := by simpa using h3
    unfold mayS at h3; simp at h3; omega
  exact h.does hok ho (a := .move o n) ⟨hn, hn2, by rw [hg]; rfl⟩ (by have := hok.used; simp only [ActS.data, List.length_nil]; omega)
theorem DS.Nms.drop {s : DS} (h : s.Nms) (hok : s.Ok) (n : Nm) : (s.drop n).2.Nms := by
  unfold DS.drop
  split
  · exact h
  rename_i h2
  obtain ⟨ho, hm, b0, hg⟩ := DS.find_zero (s := s) (n := n) (by simpa using h2)
  have hn : n.length ≤ 32 := by unfold mayS at hm; simp at hm; omega
  exact h.does hok ho (a := .drop n) hn (by have := hok.used; simp only [ActS.data, List.length_nil]; omega)
theorem DS.Nms.sync {s : DS} (h : s.Nms) (hok : s.Ok) : s.sync.2.Nms := by
  unfold DS.sync
  split
  · exact h
  split
  · exact h.hit.fall hok.hit _ _
  exact h.seen hok
theorem DS.list_nm {s : DS} (h : s.Nms) (hok : s.Ok) : ∀ n ∈ s.list, n.length ≤ 32 := by
  intro n hn
  unfold DS.list at hn
  split at hn
  · cases hn
  obtain ⟨p, hp, rfl⟩ := List.mem_map.1 hn
  exact h.seen hok p hp
theorem DS.list_len {s : DS} (hok : s.Ok) : s.list.length ≤ 4096 := by
  unfold DS.list
  split
  · simp
  rw [List.length_map]; exact hok.run.2.1

/-- A row of names. -/
theorem row_str {w : World} {B : Nat} {v : Value} {L : List Nm} (h : w.ownsRow B 9 1 v L.length (L.map strV)) :
    ∃ a c, v = .slice a L.length c ∧ L.length ≤ c ∧ ∀ k, (hk : k < L.length) → ∃ b, a = some ⟨b, 0, none⟩ ∧ B ≤ b ∧ b < w.heap.size ∧ w.cell? ⟨b, k, none⟩ = some (.string ⟨(L[k]).toArray⟩) := by
  obtain ⟨e0, ⟨e1, e2⟩ | ⟨g, cap, cur, e1, e2, e3, e4, e5, e6, e7⟩⟩ := h
  · refine ⟨none, 0, by rw [e1, e2], by omega, fun k hk => by omega⟩
  refine ⟨some ⟨g, 0, none⟩, cap, e1, e4, fun k hk => ⟨g, rfl, e2, (Array.getElem?_eq_some_iff.1 e3).1, ?_⟩⟩
  have hq := congrArg (fun l => l[k]?) e7
  simp only [List.getElem?_take, Nat.mul_one] at hq
  rw [if_pos hk, List.getElem?_map, List.getElem?_eq_getElem hk] at hq
  unfold World.cell?
  simp only [e3]
  simpa [Array.getElem?_toList, strV] using hq
/-! ### Open's first loop -/
theorem keepS_ok {d : DS} {k : Sn × Bool} (h : k.2 = true → checkS k.1 = 0) (f : Nm) : (keepS d k f).2 = true → checkS (keepS d k f).1 = 0 := by
  unfold keepS
  split
  · split
    · rename_i s hs
      split
      · intro _; exact (readS_some hs).1
      exact h
    exact h
  exact h
theorem kept_ok (d : DS) : ∀ (l : List Nm) (k : Sn × Bool), (k.2 = true → checkS k.1 = 0) → (l.foldl (keepS d) k).2 = true → checkS (l.foldl (keepS d) k).1 = 0 := by
  intro l
  induction l with
  | nil => intro k h; exact h
  | cons f l ih => intro k h; exact ih _ (keepS_ok h f)
theorem take_fold (d : DS) (l : List Nm) {k : Nat} (hk : k < l.length) : (l.take (k + 1)).foldl (keepS d) (sn0, false) = keepS d ((l.take k).foldl (keepS d) (sn0, false)) l[k] := by
  rw [List.take_succ_eq_append_getElem hk, List.foldl_append]; rfl
theorem dropsS_ok : ∀ (l : List Nm) (k : Sn × Bool) {d : DS}, d.Ok → (dropsS k l d).2.Ok := by
  intro l
  induction l with
  | nil => intro k d h; exact h
  | cons f r ih =>
    intro k d h
    unfold dropsS
    split
    · split
      · exact h.drop _
      exact ih _ (h.drop _)
    exact ih _ h
theorem dropsS_acts : ∀ (l : List Nm) (k : Sn × Bool) (d : DS), (dropsS k l d).2.acts.length ≤ d.acts.length + l.length := by
  intro l
  induction l with
  | nil => intro k d; exact Nat.le_refl _
  | cons f r ih =>
    intro k d
    have h1 := DS.drop_acts d f
    unfold dropsS
    simp only [List.length_cons]
    split
    · split
      · omega
      have := ih k (d.drop f).2; omega
    have := ih k d; omega
end Go.Proofs.YtjapeaoebjmpnaaGreatDoor
