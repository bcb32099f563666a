/- Plain: what reading a disk may lead to: sizes, the last segment; a calm disk is opened. -/
import Derived.Test.YtikjckdoldiddaaGreatDoorC22
namespace Go.Proofs.YtikjckdoldiddaaGreatDoor
open Go.RowKit Go.Maps
set_option linter.unusedVariables false
set_option linter.unusedSimpArgs false

theorem Sc.text_b (s : Sc) (m : Nat) : (s.text m).1.length ≤ s.b.length := by
  unfold Sc.text
  repeat' split
  · exact Nat.zero_le _
  · exact Nat.zero_le _
  · exact Nat.zero_le _
  rw [List.length_take, List.length_drop]; omega
theorem take_wt {v v' : Wv} {b : By} (h : v.take b = some v') : v'.wt ≤ v.wt + 50 + b.length := by
  unfold Wv.take at h
  dsimp only at h
  split at h
  · split at h
    · cases h; show v.wt ≤ _; omega
    cases h
  split at h
  · split at h
    · cases h
      show wtE (v.l ++ _) ≤ wtE v.l + 50 + b.length
      rw [wtE_append]
      have h1 := ((⟨b, 0, 0⟩ : Sc).num.2.num.2.num.2).text_b 4096
      rw [Sc.num_b, Sc.num_b, Sc.num_b] at h1
      dsimp only at h1
      unfold wtE
      simp only [List.map_cons, List.map_nil, List.sum_cons, List.sum_nil]
      omega
    cases h
  split at h
  · split at h
    · cases h
      have := wtE_take v.l (((⟨b, 0, 0⟩ : Sc).num.2.num.1 : Int) - v.i - 1).toNat
      exact Nat.le_trans this (Nat.le_trans (Nat.le_add_right _ 50) (Nat.le_add_right _ b.length))
    cases h
  cases h
def sumB (L : List By) : Nat := (L.map fun b => 50 + b.length).sum
theorem sumB_cons (b : By) (L : List By) : sumB (b :: L) = 50 + b.length + sumB L := rfl
theorem sumB_drop (L : List By) (k : Nat) : sumB (L.drop k) ≤ sumB L := by
  induction L generalizing k with
  | nil => simp
  | cons b L ih =>
    cases k with
    | zero => exact Nat.le_refl _
    | succ k => rw [List.drop_succ_cons, sumB_cons]; have := ih k; omega
theorem more_wt : ∀ (L : List By) (v : Wv), (v.more L).1.wt ≤ v.wt + sumB L := by
  intro L
  induction L with
  | nil => intro v; exact Nat.le_refl _
  | cons b r ih =>
    intro v
    cases ht : v.take b with
    | none => rw [more_none ht]; exact Nat.le_add_right _ _
    | some v' => rw [more_some ht, sumB_cons]; have h1 := take_wt ht; have h2 := ih v'; dsimp only; omega
theorem goWV_wt : ∀ (L : List By) (k : Nat) (v : Wv), (goWV k v L).1.wt ≤ v.wt + sumB L := by
  intro L
  induction L with
  | nil => intro k v; exact Nat.zero_le _
  | cons b r ih =>
    intro k v
    rw [goWV_cons]
    split
    · exact Nat.le_add_right _ _
    split
    · exact Nat.zero_le _
    rename_i v' hv
    have h1 := take_wt hv
    have h2 := ih (k + 1) v'
    rw [sumB_cons]; omega
theorem begin_wt (L : List By) : (beginW L).1.wt ≤ sumB L := by
  cases L with
  | nil => exact Nat.zero_le _
  | cons b r =>
    unfold beginW
    dsimp only
    split
    · have := goWV_wt r 0 ⟨0, 0, ((⟨b, 0, 0⟩ : Sc).num.2.num.1 : Int), ((⟨b, 0, 0⟩ : Sc).num.2.num.2.num.1 : Int), []⟩
      rw [sumB_cons]
      have h0 : Wv.wt ⟨0, 0, ((⟨b, 0, 0⟩ : Sc).num.2.num.1 : Int), ((⟨b, 0, 0⟩ : Sc).num.2.num.2.num.1 : Int), []⟩ = 0 := rfl
      omega
    exact Nat.zero_le _
def sumS (d : DS) (l : List Nat) : Nat := (l.map fun n => sumB (segR d n)).sum
theorem sumS_cons (d : DS) (n : Nat) (l : List Nat) : sumS d (n :: l) = sumB (segR d n) + sumS d l := rfl
theorem grow_wt (s : Wl) (L : List By) (k : Nat) : (s.grow L k).v.wt ≤ s.v.wt + sumB L := by
  have h1 := more_wt (L.drop k) s.v
  have h2 := sumB_drop L k
  show (s.v.more (L.drop k)).1.wt ≤ _
  omega
theorem follow_wt (d : DS) : ∀ (l : List Nat) (s : Wl), (followS d l s).v.wt ≤ s.v.wt + sumS d l := by
  intro l
  induction l with
  | nil => intro s; exact Nat.le_refl _
  | cons n r ih =>
    intro s
    rw [follow_cons, sumS_cons]
    have h1 := grow_wt s (segR d n) 0
    split
    · omega
    split
    · show (s.grow (segR d n) 0).v.wt ≤ _; omega
    split
    · have h2 := ih { s.grow (segR d n) 0 with tt := n }
      have h3 : ({ s.grow (segR d n) 0 with tt := n } : Wl).v.wt = (s.grow (segR d n) 0).v.wt := rfl
      omega
    show (s.grow (segR d n) 0).v.wt ≤ _; omega
theorem sumS_drop (d : DS) : ∀ (l : List Nat) (k : Nat) (h : k < l.length), sumB (segR d l[k]) + sumS d (l.drop (k + 1)) ≤ sumS d l := by
  intro l
  induction l with
  | nil => intro k h; cases h
  | cons x r ih =>
    intro k h
    rw [sumS_cons]
    cases k with
    | zero => exact Nat.le_refl _
    | succ k =>
      have := ih k (by rw [List.length_cons] at h; omega)
      rw [List.getElem_cons_succ, List.drop_succ_cons]
      omega
theorem scan_wt (d : DS) (l : List Nat) : ∀ k, k ≤ l.length → (scanS d l k).v.wt ≤ 2 * sumS d l := by
  intro k
  induction k with
  | zero => intro _; exact Nat.zero_le _
  | succ k ih =>
    intro hk
    have hjl : k < l.length := by omega
    have hgd : l.getD k 0 = l[k] := by rw [List.getD_eq_getElem?_getD, List.getElem?_eq_getElem hjl]; rfl
    have hsd := sumS_drop d l k hjl
    rw [scanS_succ, hgd]
    generalize l[k] = n at *
    have h1 := begin_wt (segR d n)
    have h2 := grow_wt ⟨(beginW (segR d n)).1, n, n, 0⟩ (segR d n) (beginW (segR d n)).2
    have h2' : ((⟨(beginW (segR d n)).1, n, n, 0⟩ : Wl).grow (segR d n) (beginW (segR d n)).2).v.wt ≤ 2 * sumB (segR d n) := by
      have : (⟨(beginW (segR d n)).1, n, n, 0⟩ : Wl).v.wt = (beginW (segR d n)).1.wt := rfl
      omega
    split
    · exact ih (by omega)
    split
    · have h3 := follow_wt d (l.drop (k + 1)) ((⟨(beginW (segR d n)).1, n, n, 0⟩ : Wl).grow (segR d n) (beginW (segR d n)).2)
      omega
    omega
theorem flat_sum (L : List By) : sumB L = 50 * L.length + L.flatten.length := by
  induction L with
  | nil => rfl
  | cons b L ih => rw [sumB_cons, ih, List.length_cons, List.flatten_cons, List.length_append]; omega
theorem sumB_seg (d : DS) (n : Nat) : sumB (segR d n) ≤ 11 * (segB d n).length := by
  have h1 := segR_five d n
  obtain ⟨-, -, -, h2⟩ := rowsB_bound (segB d n).length (segB d n) (Nat.le_refl _)
  have h3 := flat_sum (segR d n)
  have h4 : (segR d n).flatten.length ≤ (segB d n).length := h2
  omega
theorem sumS_le (d : DS) : ∀ (l : List Nat), sumS d l ≤ 11 * (l.map fun n => (segB d n).length).sum := by
  intro l
  induction l with
  | nil => exact Nat.le_refl _
  | cons n r ih => rw [sumS_cons, List.map_cons, List.sum_cons]; have := sumB_seg d n; omega
theorem segs_total {d : DS} (hok : d.Ok) {l : List Nat} (hs : d.Segs l) : (l.map fun n => (segB d n).length).sum ≤ 16777216 := by
  obtain ⟨h1, h2, h3, -, -⟩ := hok.run
  by_cases ho : d.off = true
  · have h4 : l = [] := by
      have := congrArg List.length hs.list
      unfold DS.list at this
      rw [if_pos ho] at this
      simpa using this.symm
    subst h4
    exact Nat.zero_le _
  have e1 : d.seen.map Prod.fst = l.map fileW := by have := hs.list; unfold DS.list at this; rwa [if_neg ho] at this
  have s2 := sum_le_of l (fun n => (segB d n).length) (fun n => (tOld d.seen (fileW n)).length) (segB_le d)
  have s3 := tTot_names h1 d.seen fun p hp => h1.get hp
  have s4 : (l.map fun n => (tOld d.seen (fileW n)).length) = d.seen.map fun p => (tOld d.seen p.1).length := by
    have e := congrArg (List.map fun x => (tOld d.seen x).length) e1
    rw [List.map_map, List.map_map] at e
    exact e.symm
  rw [s4, s3] at s2
  omega
theorem read_wt {d : DS} (hok : d.Ok) {l : List Nat} (hs : d.Segs l) : (readS d l).v.wt ≤ 369098752 := by
  have h1 := scan_wt d l l.length (Nat.le_refl _)
  have h2 := sumS_le d l
  have h3 := segs_total hok hs
  show (scanS d l l.length).v.wt ≤ _
  omega
/-- Where a reading ends. -/
def AtSeg (d : DS) (l : List Nat) (s : Wl) : Prop := s = wl0 ∨ (s.tt ∈ l ∧ s.fr ∈ l ∧ s.fr ≤ s.tt ∧ s.sz ≤ (segB d s.tt).length)
theorem grow_sz (d : DS) (s : Wl) (n k : Nat) : (s.grow (segR d n) k).sz ≤ (segB d n).length := segR_sized d n _
theorem follow_at (d : DS) (l0 : List Nat) : ∀ (l : List Nat) (s : Wl), (∀ n ∈ l, n ∈ l0) → s.tt ∈ l0 ∧ s.fr ∈ l0 ∧ s.fr ≤ s.tt ∧ s.sz ≤ (segB d s.tt).length → AtSeg d l0 (followS d l s) := by
  intro l
  induction l with
  | nil => intro s _ h; exact .inr h
  | cons n r ih =>
    intro s hl h
    obtain ⟨h1, h2, h3, h4⟩ := h
    have hn := hl n (List.mem_cons_self ..)
    rw [follow_cons]
    split
    · exact .inr ⟨h1, h2, h3, h4⟩
    rename_i hne
    have hne1 : n = s.tt + 1 := Decidable.of_not_not fun h => hne (.inl h)
    split
    · exact .inr ⟨h1, h2, h3, h4⟩
    have hz := grow_sz d s n 0
    split
    · exact ih _ (fun x hx => hl x (List.mem_cons_of_mem _ hx)) ⟨hn, h2, by show s.fr ≤ n; omega, hz⟩
    exact .inr ⟨hn, h2, by show s.fr ≤ n; omega, hz⟩
theorem scan_at (d : DS) (l : List Nat) : ∀ k, k ≤ l.length → AtSeg d l (scanS d l k) := by
  intro k
  induction k with
  | zero => intro _; exact .inl rfl
  | succ k ih =>
    intro hk
    have hjl : k < l.length := by omega
    have hgd : l.getD k 0 = l[k] := by rw [List.getD_eq_getElem?_getD, List.getElem?_eq_getElem hjl]; rfl
    have hm := List.getElem_mem hjl
    rw [scanS_succ, hgd]
    generalize l[k] = n at *
    have hz := grow_sz d (⟨(beginW (segR d n)).1, n, n, 0⟩ : Wl) n (beginW (segR d n)).2
    have hb : ((⟨(beginW (segR d n)).1, n, n, 0⟩ : Wl).grow (segR d n) (beginW (segR d n)).2).tt ∈ l ∧ ((⟨(beginW (segR d n)).1, n, n, 0⟩ : Wl).grow (segR d n) (beginW (segR d n)).2).fr ∈ l ∧
        ((⟨(beginW (segR d n)).1, n, n, 0⟩ : Wl).grow (segR d n) (beginW (segR d n)).2).fr ≤ ((⟨(beginW (segR d n)).1, n, n, 0⟩ : Wl).grow (segR d n) (beginW (segR d n)).2).tt ∧
        ((⟨(beginW (segR d n)).1, n, n, 0⟩ : Wl).grow (segR d n) (beginW (segR d n)).2).sz ≤ (segB d ((⟨(beginW (segR d n)).1, n, n, 0⟩ : Wl).grow (segR d n) (beginW (segR d n)).2).tt).length := ⟨hm, hm, Nat.le_refl n, hz⟩
    split
    · exact ih (by omega)
    split
    · exact follow_at d l _ _ (fun x hx => List.mem_of_mem_drop hx) hb
    exact .inr hb
theorem read_at (d : DS) (l : List Nat) : AtSeg d l (readS d l) := scan_at d l l.length (Nat.le_refl _)
/-! ### a calm disk is opened -/
theorem segs_rise {d : DS} (ho : d.off = false) (hr : tRise d.seen) {l : List Nat} (hs : d.Segs l) : l.Pairwise (· < ·) := by
  have e1 : d.seen.map Prod.fst = l.map fileW := by have := hs.list; unfold DS.list at this; rwa [if_neg (by rw [ho]; simp)] at this
  have h1 : (d.seen.map Prod.fst).Pairwise (fun a b => bytesBefore a b = true) := List.pairwise_map.2 hr
  rw [e1, List.pairwise_map] at h1
  refine h1.imp_of_mem fun {a b} ha hb hab => fileW_lt (hs.num a ha).2 (hs.num b hb).2 hab
theorem segs_get {d : DS} (ho : d.off = false) (hr : tRise d.seen) {l : List Nat} (hs : d.Segs l) {n : Nat} : n ∈ l ↔ 1 ≤ n ∧ n < 1000000000000 ∧ ∃ b, tGet d.seen (fileW n) = some b := by
  have e1 : d.seen.map Prod.fst = l.map fileW := by have := hs.list; unfold DS.list at this; rwa [if_neg (by rw [ho]; simp)] at this
  constructor
  · intro hn
    have h1 : fileW n ∈ d.seen.map Prod.fst := by rw [e1]; exact List.mem_map_of_mem hn
    obtain ⟨p, hp, he⟩ := List.mem_map.1 h1
    refine ⟨(hs.num n hn).1, (hs.num n hn).2, p.2, hr.get ?_⟩
    rw [← he]; exact hp
  rintro ⟨h1, h2, b, hb⟩
  have h3 : fileW n ∈ d.seen.map Prod.fst := List.mem_map_of_mem (f := Prod.fst) (tGet_mem hb)
  rw [e1] at h3
  obtain ⟨m, hm, he⟩ := List.mem_map.1 h3
  rw [← fileW_inj he]; exact hm
theorem segB_get {d : DS} (ho : d.off = false) {n : Nat} (hn : n < 1000000000000) : segB d n = tOld d.seen (fileW n) := by
  unfold segB DS.read
  cases hg : tGet d.seen (fileW n) with
  | none =>
    rw [if_pos (by rw [find_noneW ho (fileW_may hn) hg]; simp)]
    unfold tOld; rw [hg]; rfl
  | some b => rw [if_neg (by rw [find_someW ho (fileW_may hn) hg]; simp)]
/-- What is dropped by Open. -/
theorem dropsW_calm (s : Wl) : ∀ (l : List Nat) (d : DS), d.Calm → tRise d.seen → l.Pairwise (· < ·) → (∀ n ∈ l, n < 1000000000000 ∧ ∃ b, tGet d.seen (fileW n) = some b) →
    ∃ T a, dropsW s l d = (0, { d with seen := T, acts := a }) ∧ tRise T ∧ ∀ m, tGet T m = if ∃ n ∈ l, m = fileW n ∧ goesW s n then none else tGet d.seen m := by
  intro l
  induction l with
  | nil =>
    intro d hc hr _ _
    exact ⟨d.seen, d.acts, rfl, hr, fun m => by rw [if_neg (by rintro ⟨n, hn, -⟩; cases hn)]⟩
  | cons n r ih =>
    intro d hc hr hp hl
    obtain ⟨hn, b, hb⟩ := hl n (List.mem_cons_self ..)
    obtain ⟨hp1, hp2⟩ := List.pairwise_cons.1 hp
    rw [dropsW_cons]
    by_cases hg : goesW s n
    · rw [if_pos hg, drop_calmW hc (fileW_may hn) hb]
      dsimp only
      rw [if_neg (by simp)]
      obtain ⟨T, a, e1, e2, e3⟩ := ih { d with seen := tDel d.seen (fileW n), acts := d.acts ++ [.drop (fileW n)] } hc (tDel_rise hr _) hp2 fun m hm => by
        obtain ⟨g1, c, g2⟩ := hl m (List.mem_cons_of_mem _ hm)
        refine ⟨g1, c, ?_⟩
        have hne : fileW m ≠ fileW n := fun e => by have := hp1 m hm; have := fileW_inj e; omega
        exact (tGet_del_other hr hne).trans g2
      refine ⟨T, a, e1, e2, fun m => ?_⟩
      rw [e3 m]
      by_cases hm : m = fileW n
      · subst hm
        have h1 : tGet (tDel d.seen (fileW n)) (fileW n) = none := tGet_del_eq _
        rw [if_pos (⟨n, List.mem_cons_self .., rfl, hg⟩ : ∃ k ∈ n :: r, fileW n = fileW k ∧ goesW s k)]
        split
        · rfl
        exact h1
      have h1 : tGet (tDel d.seen (fileW n)) m = tGet d.seen m := tGet_del_other hr hm
      show (if ∃ k ∈ r, m = fileW k ∧ goesW s k then none else tGet (tDel d.seen (fileW n)) m) = _
      rw [h1]
      by_cases hex : ∃ k ∈ r, m = fileW k ∧ goesW s k
      · rw [if_pos hex, if_pos]
        obtain ⟨k, k1, k2⟩ := hex
        exact ⟨k, List.mem_cons_of_mem _ k1, k2⟩
      rw [if_neg hex, if_neg]
      rintro ⟨k, k1, k2, k3⟩
      rcases List.mem_cons.1 k1 with rfl | k1
      · exact hm k2
      exact hex ⟨k, k1, k2, k3⟩
    rw [if_neg hg]
    obtain ⟨T, a, e1, e2, e3⟩ := ih d hc hr hp2 fun m hm => hl m (List.mem_cons_of_mem _ hm)
    refine ⟨T, a, e1, e2, fun m => ?_⟩
    rw [e3 m]
    by_cases hex : ∃ k ∈ r, m = fileW k ∧ goesW s k
    · rw [if_pos hex, if_pos]
      obtain ⟨k, k1, k2⟩ := hex
      exact ⟨k, List.mem_cons_of_mem _ k1, k2⟩
    rw [if_neg hex, if_neg]
    rintro ⟨k, k1, k2, k3⟩
    rcases List.mem_cons.1 k1 with rfl | k1
    · exact hg k3
    exact hex ⟨k, k1, k2, k3⟩
/-- What Open leaves of a file. -/
def keptW (s : Wl) (T : Tab) (n : Nat) : Option By :=
  if goesW s n then none else if n = s.tt then (tGet T (fileW n)).map fun b => b.take s.sz else tGet T (fileW n)
theorem openW_calm {d : DS} (hok : d.Ok) (hc : d.Calm) {l : List Nat} (hs : d.Segs l) :
    ∃ T, openW d l = (0, { d with seen := T, last := T, acts := [] }) ∧ tRise T ∧ ∀ n, 1 ≤ n → n < 1000000000000 → tGet T (fileW n) = keptW (readS d l) d.seen n := by
  have hr := hok.run.1
  have hp := segs_rise hc.1 hr hs
  have hg := fun n => segs_get hc.1 hr hs (n := n)
  have hat := read_at d l
  have hfi := read_fine hok hs
  unfold openW
  generalize readS d l = s at *
  obtain ⟨T, a, e1, e2, e3⟩ := dropsW_calm s l d hc hr hp fun n hn => ⟨((hg n).1 hn).2.1, ((hg n).1 hn).2.2⟩
  rw [e1]
  have e4 : ∀ n, 1 ≤ n → n < 1000000000000 → tGet T (fileW n) = if goesW s n then none else tGet d.seen (fileW n) := fun n n1 n2 => by
    rw [e3]
    by_cases hgo : goesW s n
    · rw [if_pos hgo]
      split
      · rfl
      rename_i hno
      cases h : tGet d.seen (fileW n) with
      | none => rfl
      | some b => exact absurd ⟨n, (hg n).2 ⟨n1, n2, b, h⟩, rfl, hgo⟩ hno
    rw [if_neg hgo, if_neg]
    rintro ⟨k, -, k2, k3⟩
    rw [← fileW_inj k2] at k3
    exact hgo k3
  unfold endW
  dsimp only
  rw [if_neg (by simp)]
  unfold trimW
  by_cases ht : 0 < s.tt
  · rw [if_pos ht]
    rcases hat with rfl | ⟨h1, h2, h3, h4⟩
    · exact absurd ht (by decide)
    obtain ⟨n1, n2, b, hb⟩ := (hg s.tt).1 h1
    have hng : ¬ goesW s s.tt := by unfold goesW; omega
    have hbT : tGet T (fileW s.tt) = some b := by rw [e4 _ n1 n2, if_neg hng, hb]
    have hsz : s.sz ≤ b.length := by
      rw [segB_get hc.1 n2] at h4
      unfold tOld at h4
      rw [hb] at h4
      exact h4
    have hcT : DS.Calm { d with seen := T, acts := a } := hc
    rw [trim_calmW hcT (fileW_may n2) hbT hsz]
    dsimp only
    rw [if_neg (by simp), sync_calmW (show DS.Calm { d with seen := tPut T (fileW s.tt) (b.take s.sz), acts := a ++ [.trim (fileW s.tt) s.sz] } from hc)]
    refine ⟨_, rfl, tPut_rise e2 _ _, fun n m1 m2 => ?_⟩
    unfold keptW
    by_cases hn : n = s.tt
    · subst hn
      rw [tGet_put_eq e2, if_neg hng, if_pos rfl, hb]; rfl
    rw [tGet_put_other e2 fun e => hn (fileW_inj e), e4 n m1 m2, if_neg hn]
  rw [if_neg ht]
  dsimp only
  rw [if_neg (by simp), sync_calmW (show DS.Calm { d with seen := T, acts := a } from hc)]
  refine ⟨_, rfl, e2, fun n m1 m2 => ?_⟩
  unfold keptW
  rw [e4 n m1 m2, if_neg (show ¬ n = s.tt by omega)]
theorem open_fit {d : DS} (hok : d.Ok) (hc : d.Calm) {k : Nat} (hon : d.On (isWk k)) (hk : k < 1000000000000) {l : List Nat} (hs : d.Segs l) : ∃ d', openW d l = (0, d') ∧ (Lo.mk (readS d l) d').Fit k 369098752 ∧ d'.Calm ∧ d'.acts = [] ∧ d'.room = d.room ∧ d'.last = d'.seen := by
  obtain ⟨T, e1, e2, e3⟩ := openW_calm hok hc hs
  have h1 := openW_keeps hok (hon.wok hk) hs
  have hat := read_at d l
  have hfi := read_fine hok hs
  have hwt := read_wt hok hs
  have hon2 : (openW d l).2.On (isWk k) := by
    have a1 : (dropsW (readS d l) l d).2.On (isWk k) := by
      generalize readS d l = s
      have : ∀ (l : List Nat) {d : DS}, d.On (isWk k) → (dropsW s l d).2.On (isWk k) := by
        intro l
        induction l with
        | nil => intro d h; exact h
        | cons n r ih =>
          intro d h
          rw [dropsW_cons]
          split
          · split
            · exact h.drop _
            exact ih (h.drop _)
          exact ih h
      exact this l hon
    have a2 : (dropsW (readS d l) l d).2.Ok := dropsW_ok _ _ hok
    have htk : 0 < (readS d l).tt → isWk k (fileW (readS d l).tt) := fun h0 => by
      rcases hat with e | ⟨m1, -, -, -⟩
      · rw [e] at h0; exact absurd h0 (by decide)
      obtain ⟨b1, b2, c, b3⟩ := (segs_get hc.1 hok.run.1 hs).1 m1
      exact hon.seen hok _ (tGet_mem b3)
    unfold openW endW
    generalize dropsW (readS d l) l d = r at *
    have a3 : (trimW (readS d l) r.2).2.On (isWk k) := by
      unfold trimW
      split
      · rename_i h0; exact a1.trim (htk h0) _
      exact a1
    split
    · exact a1
    split
    · exact a3
    exact a3.sync (trimW_ok a2)
  rw [e1] at h1 hon2
  refine ⟨_, e1, ⟨h1.1, hon2, Nat.zero_le _, hfi.v.i64, hfi.v.big, hfi.v.len, hwt, ?_, hfi.fr, by have := hfi.sz; dsimp only at this ⊢; omega⟩, hc, rfl, rfl, rfl⟩
  rcases hat with e | ⟨m1, -, -, -⟩
  · dsimp only; rw [e]; exact Nat.zero_le _
  obtain ⟨b1, b2, c, b3⟩ := (segs_get hc.1 hok.run.1 hs).1 m1
  obtain ⟨n, n1, n2, n3⟩ := hon.seen hok _ (tGet_mem b3)
  rw [fileW_inj n3]; exact n2
end Go.Proofs.YtikjckdoldiddaaGreatDoor
