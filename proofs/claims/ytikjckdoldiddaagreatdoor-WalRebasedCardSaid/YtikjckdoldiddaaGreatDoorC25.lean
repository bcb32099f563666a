/- Plain: the log's calls on a calm disk, and what a crash leaves then. -/
import Derived.Test.YtikjckdoldiddaaGreatDoorC24
namespace Go.Proofs.YtikjckdoldiddaaGreatDoor
open Go.RowKit Go.Maps
set_option linter.unusedVariables false
set_option linter.unusedSimpArgs false

theorem lastsS_snoc (acts : List ActS) (a : ActS) (keep tear : Int) : lastsS (acts ++ [a]) keep tear = lastsS acts keep tear ∨ ∃ q, q ≤ a.data.length ∧ lastsS (acts ++ [a]) keep tear = acts ++ [a.cut q] := by
  by_cases hk : keep ≤ (acts.length : Int)
  · left
    have e : (max 0 (min keep ((acts ++ [a]).length : Int))).toNat = (max 0 (min keep (acts.length : Int))).toNat := by rw [List.length_append]; simp; omega
    unfold lastsS
    rw [e]
    by_cases h0 : (max 0 (min keep (acts.length : Int))).toNat = 0
    · rw [if_pos h0, if_pos h0]
    rw [if_neg h0, if_neg h0]
    have hl : (max 0 (min keep (acts.length : Int))).toNat - 1 < acts.length := by omega
    rw [List.take_append_of_le_length (by omega), List.getElem?_append_left hl]
  right
  have e : (max 0 (min keep ((acts ++ [a]).length : Int))).toNat = acts.length + 1 := by rw [List.length_append]; simp; omega
  refine ⟨a.data.length - (max 0 (min tear a.data.length)).toNat, Nat.sub_le _ _, ?_⟩
  unfold lastsS
  rw [e, if_neg (by omega), Nat.add_sub_cancel, List.take_left, List.getElem?_append_right (Nat.le_refl _), Nat.sub_self]
  rfl
/-- Whatever a crash keeps, what is read is one of some views. -/
def CI (d : DS) (V : Wv → Prop) : Prop := ∀ keep tear, ∃ s, Gr (runAll d.last (lastsS d.acts keep tear)) s ∧ V s.v
theorem CI.mono {d : DS} {V V' : Wv → Prop} (h : CI d V) (hV : ∀ u, V u → V' u) : CI d V' := fun k t => by
  obtain ⟨s, h1, h2⟩ := h k t
  exact ⟨s, h1, hV _ h2⟩
theorem CI.act {d d' : DS} {V V' : Wv → Prop} (hs : d.seen = runAll d.last d.acts) (h : CI d V) (hV : ∀ u, V u → V' u) {a : ActS} (h1 : d'.last = d.last) (h2 : d'.acts = d.acts ++ [a]) (ha : ∀ q, q ≤ a.data.length → ∃ s, Gr ((a.cut q).run d.seen) s ∧ V' s.v) : CI d' V' := fun k t => by
  rw [h1, h2]
  rcases lastsS_snoc d.acts a k t with e | ⟨q, hq, e⟩
  · rw [e]
    obtain ⟨s, g1, g2⟩ := h k t
    exact ⟨s, g1, hV _ g2⟩
  rw [e, runAll_snoc, ← hs]
  exact ha q hq
theorem CI.still {d : DS} {V : Wv → Prop} {s : Wl} (ha : d.acts = []) (h : Gr d.last s) (hV : V s.v) : CI d V := fun k t => by
  rw [ha]
  have e : lastsS [] k t = [] := by
    rcases lastsS_split [] k t with e | ⟨m, x, q, hm, -⟩
    · exact e
    cases hm
  rw [e]
  exact ⟨s, h, hV⟩
structure Lo.Good (v : Lo) (V : Wv → Prop) : Prop where
  ok : v.d.Ok
  calm : v.d.Calm
  gd : Gd v.d.seen v.s
  ci : CI v.d V
  now : V v.s.v
theorem Lo.Good.mono {v : Lo} {V V' : Wv → Prop} (h : v.Good V) (hV : ∀ u, V u → V' u) : v.Good V' := ⟨h.ok, h.calm, h.gd, h.ci.mono hV, hV _ h.now⟩
theorem small_pay (l : List Int) (more : Bool) (d : By) (hl : l.length ≤ 10) (hd : d.length ≤ 4096) : (payB l more d).length ≤ 65536 := by
  have := payB_len l more d
  omega
theorem small_whole {v : Wv} (h : v.Sound) : smallR (wholeR v) := by
  have hl := Wv.adds_len _ _ _ h.l
  intro p hp
  unfold wholeR at hp
  rcases List.mem_cons.1 hp with rfl | hp
  · exact small_pay [4, v.i, v.t] _ _ (by simp) (by simp)
  rcases List.mem_cons.1 hp with rfl | hp
  · exact small_pay [1, v.ht, v.hv] _ _ (by simp) (by simp)
  rcases List.mem_append.1 hp with hp | hp
  · obtain ⟨e, he, rfl⟩ := List.mem_map.1 hp
    exact small_pay [2, e.i, e.t] _ _ (by simp) (hl e he)
  rw [List.mem_singleton.1 hp]; decide
theorem take4 (v : Wv) {x y : Int} (hx : 0 ≤ x) (hx1 : x ≤ 1099511627776) : v.take (payB [4, x, y] false []) = none := by
  obtain ⟨a1, b1⟩ := Sc.on_num (by rw [← pay3 4 x y]; exact Sc.on_start _) (show (0 : Int) ≤ 4 by decide) (by decide)
  unfold Wv.take
  dsimp only
  rw [if_neg (by omega), if_neg (by omega), if_neg (by omega)]
/-- A segment that would stand alone, torn. -/
theorem whole_torn {nv : Wv} (hs : nv.Sound) {M : List By} (hM : smallR M) (q : Nat) :
    (∃ j y, j ≤ M.length ∧ (recs (wholeR nv ++ M)).take q = recs (wholeR nv ++ M.take j) ++ y ∧ (pickB y).2.2 ≠ 0 ∧ (sizedB (wholeR nv ++ M) ≤ q → j = M.length ∧ y = [])) ∨
    ((beginW (rowsB ((recs (wholeR nv ++ M)).take q)).1).2 = 0 ∧ (∀ v : Wv, (v.more (rowsB ((recs (wholeR nv ++ M)).take q)).1).2 = 0) ∧ q < sizedB (wholeR nv ++ M)) := by
  obtain ⟨P, hP⟩ : ∃ P, P = payB [4, nv.i, nv.t] false [] :: payB [1, nv.ht, nv.hv] false [] :: nv.l.map entR := ⟨_, rfl⟩
  have hw : wholeR nv = P ++ [[5]] := by rw [hP]; unfold wholeR; rw [pay5]; simp
  have hsm := (small_whole hs).append hM
  obtain ⟨j, y, j1, j2, j3, j4, j5⟩ := torn (wholeR nv ++ M) q hsm
  by_cases hj : (wholeR nv).length ≤ j
  · left
    refine ⟨j - (wholeR nv).length, y, by rw [List.length_append] at j1; omega, ?_, j3, fun h => ?_⟩
    · rw [j2, List.take_append, List.take_of_length_le hj]
    obtain ⟨a, b⟩ := j4 h
    exact ⟨by rw [a, List.length_append]; omega, b⟩
  right
  have e1 : (wholeR nv ++ M).take j = P.take j := by
    rw [List.take_append_of_le_length (by omega), hw]
    rw [hw, List.length_append, List.length_singleton] at hj
    rw [List.take_append_of_le_length (by omega)]
  have e2 : (rowsB ((recs (wholeR nv ++ M)).take q)).1 = P.take j := by
    rw [j2, e1, rows_left _ _ (fun p hp => hsm p (by rw [← e1] at hp; exact List.mem_of_mem_take hp)) j3]
  refine ⟨?_, fun v => ?_, ?_⟩
  · rw [e2]
    refine begin_part _ fun b hb => ?_
    have hb : b ∈ P.drop 1 := by rw [List.drop_take] at hb; exact List.mem_of_mem_take hb
    rw [hP] at hb
    rcases List.mem_cons.1 hb with rfl | hb
    · exact pay3_ne _ _ _
    obtain ⟨e, -, rfl⟩ := List.mem_map.1 hb
    exact entR_ne e
  · rw [e2, hP]
    cases j with
    | zero => rfl
    | succ j =>
      have hi := within_big hs.i
      rw [List.take_succ_cons, more_none (take4 v hi.1 hi.2)]
  have : ¬ sizedB (wholeR nv ++ M) ≤ q := fun h => by
    obtain ⟨a, -⟩ := j4 h
    rw [List.length_append] at a
    omega
  omega
theorem Gd.cases {T : Tab} {s : Wl} (h : Gd T s) : (s = wl0 ∧ s.tt = 0 ∧ ∀ n, 1 ≤ n → n < 1000000000000 → tGet T (fileW n) = none) ∨ (0 < s.tt ∧ ∃ R, Lines T s R [] ∧ ∀ n, s.tt < n → n < 1000000000000 → tGet T (fileW n) = none) := by
  rcases h.2 with ⟨h1, h2⟩ | ⟨⟨R, h1⟩, h2⟩
  · exact .inl ⟨h1, by rw [h1]; rfl, h2⟩
  exact .inr ⟨by have := h1.fr1; have := h1.frt; omega, R, h1, h2⟩
/-- A new file, or more bytes of one. -/
def newD (d : DS) (n k : Nat) (o b : By) : DS := { d with seen := tPut d.seen (fileW n) (o ++ b), acts := d.acts ++ [.write (fileW n) k b] }
theorem newD_cut {d : DS} {n k : Nat} {o : By} (hk : k = o.length) (ho : tOld d.seen (fileW n) = o) (b : By) (q : Nat) : ((ActS.write (fileW n) k b).cut q).run d.seen = tPut d.seen (fileW n) (o ++ b.take q) := by
  show tPut d.seen (fileW n) (wrB (tOld d.seen (fileW n)) k (b.take q)) = _
  rw [ho, hk, wrB_endW]
/-- What a log's write of records leads to. -/
def WriteTo (v : Lo) (V : Wv → Prop) (M : List By) (n : Wv) (r : Int × Lo) : Prop :=
  (r = (7, v) ∧ (4096 ≤ v.d.seen.length ∨ v.d.room < v.d.used + (recs M).length + 123)) ∨
  (r.1 = 0 ∧ (r.2.setV n).Good (fun u => V u ∨ ∃ j, j ≤ M.length ∧ v.s.v.runs (M.take j) = some u) ∧ r.2.d.room = v.d.room ∧ r.2.d.used ≤ v.d.used + (recs M).length + 123 ∧ r.2.d.seen.length ≤ v.d.seen.length + 1)
theorem used_snoc (d : DS) (n k : Nat) (o b : By) : (newD d n k o b).used = d.used + b.length := by
  unfold newD DS.used
  rw [aTot_append]
  simp [aTot, ActS.data]
  omega
theorem put_to {v : Lo} {V : Wv → Prop} (h : v.Good V) {M : List By} {n : Wv} (hn : v.s.v.runs M = some n) {tt : Nat} {o b : By} (ht1 : 1 ≤ tt) (ht2 : tt < 999999999999) (ho : tOld v.d.seen (fileW tt) = o)
    (hg : o = [] ∧ tGet v.d.seen (fileW tt) = none ∨ tGet v.d.seen (fileW tt) = some o) (hb : b.length ≤ (recs M).length + 123)
    (hgd : Gd (tPut v.d.seen (fileW tt) (o ++ b)) ⟨n, max v.s.fr 1, tt, o.length + b.length⟩)
    (htorn : ∀ q, ∃ s, Gr (tPut v.d.seen (fileW tt) (o ++ b.take q)) s ∧ ∃ j, j ≤ M.length ∧ v.s.v.runs (M.take j) = some s.v) :
    WriteTo v V M n (v.put tt o.length b) := by
  have hw : v.d.write (fileW tt) (o.length : Int) b = (7, v.d) ∧ (4096 ≤ v.d.seen.length ∨ v.d.room < v.d.used + b.length) ∨ v.d.write (fileW tt) (o.length : Int) b = (0, newD v.d tt o.length o b) ∧ (b.length : Int) ≤ v.d.room - v.d.used ∧ (tGet v.d.seen (fileW tt) = none → v.d.seen.length < 4096) := by
    rcases hg with ⟨h1, h2⟩ | h2
    · subst h1
      rw [show (([] : By).length : Int) = 0 from rfl, write_newW h.calm (fileW_may (by omega)) b h2]
      split
      · rename_i h4; exact .inl ⟨rfl, .inl h4⟩
      split
      · rename_i h4 h5; exact .inl ⟨rfl, .inr (by omega)⟩
      rename_i h4 h5; exact .inr ⟨rfl, by omega, fun _ => by omega⟩
    rw [write_endW h.calm (fileW_may (by omega)) h2]
    split
    · rename_i h5; exact .inl ⟨rfl, .inr (by omega)⟩
    rename_i h5; exact .inr ⟨rfl, by omega, fun e => by rw [h2] at e; cases e⟩
  unfold Lo.put
  rcases hw with ⟨e, hfull⟩ | ⟨e, hroom, hlen⟩
  · left
    rw [e]
    refine ⟨by rw [if_pos (by simp)], ?_⟩
    rcases hfull with h1 | h1
    · exact .inl h1
    exact .inr (by omega)
  right
  rw [e, if_neg (by simp)]
  have hok : (newD v.d tt o.length o b).Ok := by
    have h1 := h.ok.write (fileW tt) (o.length : Int) b
    rw [e] at h1
    exact h1
  refine ⟨rfl, ⟨hok, h.calm, hgd, ?_, .inr ⟨M.length, Nat.le_refl _, by rw [List.take_length]; exact hn⟩⟩, rfl, ?_, ?_⟩
  · refine h.ci.act (d' := newD v.d tt o.length o b) h.ok.seen (fun u hu => .inl hu) rfl rfl fun q hq => ?_
    rw [newD_cut rfl ho]
    obtain ⟨s, g1, g2⟩ := htorn q
    exact ⟨s, g1, .inr g2⟩
  · show (newD v.d tt o.length o b).used ≤ _
    rw [used_snoc]; omega
  show (tPut v.d.seen (fileW tt) (o ++ b)).length ≤ _
  exact tPut_len _ _ _
theorem write_to {v : Lo} {V : Wv → Prop} (h : v.Good V) (htt : v.s.tt < 999999999998) {M : List By} {n : Wv} (hM : smallR M) (hne : M ≠ []) (hn : v.s.v.runs M = some n) : WriteTo v V M n (v.write (recs M)) := by
  have hr := h.ok.run.1
  have hsound : n.Sound := Sound.runs M v.s.v n h.gd.1 hn
  have hpart := fun j => runs_part hn j
  unfold Lo.write
  rcases h.gd.cases with ⟨h1, h2, h3⟩ | ⟨h2, R, h1, h3⟩
  · rw [if_pos h2]
    have hv0 : v.s.v = wv0 := by rw [h1]; rfl
    have hfr : v.s.fr = 0 := by rw [h1]; rfl
    rw [hv0] at hn hpart
    have hnone := h3 1 (Nat.le_refl _) (by decide)
    have e1 : wv0.whole ++ recs M = recs (wholeR wv0 ++ M) := by rw [recs_append]; show _ = recs (wholeR wv0) ++ _; rw [← show wv0.whole = recs (wholeR wv0) from whole_recs wv0]
    have hsm0 := small_whole Sound.zero
    have hput := put_to h (M := M) (n := n) (tt := 1) (o := []) (b := wv0.whole ++ recs M) (by rw [hv0]; exact hn) (Nat.le_refl _) (by decide) (tOld_none hnone) (.inl ⟨rfl, hnone⟩)
      (by rw [List.length_append]; have := wv0_len; omega) ?_ ?_
    · exact hput
    · rw [List.nil_append, e1]
      have hl := Lines.alone hr (n := 1) (Nat.le_refl _) (by decide) (fun m m1 m2 => h3 m (by omega) m2) Sound.zero hsm0 (M := M) (y := []) hM pickB_nil hn
      rw [List.append_nil] at hl
      have e2 : (⟨n, max v.s.fr 1, 1, ([] : By).length + (recs (wholeR wv0 ++ M)).length⟩ : Wl) = ⟨n, 1, 1, sizedB (wholeR wv0 ++ M)⟩ := by rw [hfr, recs_len]; simp
      rw [e2]
      refine ⟨hsound, .inr ⟨⟨_, hl⟩, fun m m1 m2 => ?_⟩⟩
      rw [tGet_put_other hr fun e => by have := fileW_inj e; dsimp only at m1; omega]
      exact h3 m (by dsimp only at m1; omega) m2
    intro q
    rw [List.nil_append, e1]
    rcases whole_torn Sound.zero hM q with ⟨j, y, j1, j2, j3, -⟩ | ⟨j1, -, -⟩
    · obtain ⟨u, hu⟩ := hpart j
      have hl := Lines.alone hr (n := 1) (Nat.le_refl _) (by decide) (fun m m1 m2 => h3 m (by omega) m2) Sound.zero hsm0 (hM.part j) j3 hu
      rw [j2]
      exact ⟨_, ⟨Sound.runs _ _ _ Sound.zero hu, .inr ⟨_, _, hl⟩⟩, j, j1, by rw [hv0]; exact hu⟩
    refine ⟨wl0, ⟨Sound.zero, .inl ⟨rfl, fun m m1 m2 => ?_⟩⟩, 0, Nat.zero_le _, by rw [hv0]; rfl⟩
    by_cases hm : m = 1
    · subst hm
      have e3 : ∀ b, tOld (tPut v.d.seen (fileW 1) b) (fileW 1) = b := fun b => by unfold tOld; rw [tGet_put_eq hr]; rfl
      rw [e3]; exact j1
    rw [tOld_none (by rw [tGet_put_other hr fun e => hm (fileW_inj e)]; exact h3 m m1 m2), rows_nil]; rfl
  rw [if_neg (by omega)]
  have hmax : max v.s.fr 1 = v.s.fr := by have := h1.fr1; omega
  obtain ⟨c1, c2, c3⟩ := h1.seg v.s.tt h1.frt (Nat.le_refl _)
  rw [if_pos rfl, List.append_nil] at c1
  split
  · have hnone := h3 (v.s.tt + 1) (by omega) (by omega)
    have hput := put_to h (M := M) (n := n) (tt := v.s.tt + 1) (o := []) (b := recs M) hn (by omega) (by omega) (tOld_none hnone) (.inl ⟨rfl, hnone⟩) (by omega) ?_ ?_
    · exact hput
    · rw [List.nil_append, hmax]
      obtain ⟨R', hl⟩ := h1.next hr h3 htt (y := []) hM hne pickB_nil hn
      rw [List.append_nil] at hl
      have e2 : (⟨n, v.s.fr, v.s.tt + 1, ([] : By).length + (recs M).length⟩ : Wl) = ⟨n, v.s.fr, v.s.tt + 1, sizedB M⟩ := by rw [recs_len]; simp
      rw [e2]
      refine ⟨hsound, .inr ⟨⟨_, hl⟩, fun m m1 m2 => ?_⟩⟩
      dsimp only at m1
      rw [tGet_put_other hr fun e => by have := fileW_inj e; omega]
      exact h3 m (by omega) m2
    intro q
    rw [List.nil_append]
    obtain ⟨j, y, j1, j2, j3, -, -⟩ := torn M q hM
    obtain ⟨u, hu⟩ := hpart j
    by_cases hj0 : M.take j = []
    · have e4 : (recs M).take q = y := by rw [j2, hj0]; rfl
      have hl := h1.dead hr h3 (b := (recs M).take q) (by rw [e4, rowsB_none j3]; rfl) (by rw [e4, rowsB_none j3]; rfl)
      exact ⟨v.s, ⟨h.gd.1, .inr ⟨_, _, hl⟩⟩, 0, Nat.zero_le _, rfl⟩
    obtain ⟨R', hl⟩ := h1.next hr h3 htt (hM.part j) hj0 j3 hu
    rw [j2]
    exact ⟨_, ⟨Sound.runs _ _ _ h.gd.1 hu, .inr ⟨_, _, hl⟩⟩, j, j1, hu⟩
  have hsz : v.s.sz = (recs (R v.s.tt)).length := by rw [recs_len, h1.sz]
  rw [hsz]
  have hold : tOld v.d.seen (fileW v.s.tt) = recs (R v.s.tt) := by unfold tOld; rw [c1]; rfl
  have hput := put_to h (M := M) (n := n) (tt := v.s.tt) (o := recs (R v.s.tt)) (b := recs M) hn (by omega) (by omega) hold (.inr c1) (by omega) ?_ ?_
  · exact hput
  · rw [hmax]
    obtain ⟨R', hl, -⟩ := h1.more hr h3 (y := []) hM pickB_nil hn
    rw [List.append_nil, recs_append] at hl
    have e2 : (⟨n, v.s.fr, v.s.tt, (recs (R v.s.tt)).length + (recs M).length⟩ : Wl) = ⟨n, v.s.fr, v.s.tt, v.s.sz + sizedB M⟩ := by rw [← hsz, recs_len]
    rw [e2]
    refine ⟨hsound, .inr ⟨⟨_, hl⟩, fun m m1 m2 => ?_⟩⟩
    dsimp only at m1
    rw [tGet_put_other hr fun e => by have := fileW_inj e; omega]
    exact h3 m m1 m2
  intro q
  obtain ⟨j, y, j1, j2, j3, -, -⟩ := torn M q hM
  obtain ⟨u, hu⟩ := hpart j
  obtain ⟨R', hl, -⟩ := h1.more hr h3 (hM.part j) j3 hu
  rw [recs_append, List.append_assoc] at hl
  rw [j2]
  exact ⟨_, ⟨Sound.runs _ _ _ h.gd.1 hu, .inr ⟨_, _, hl⟩⟩, j, j1, hu⟩
end Go.Proofs.YtikjckdoldiddaaGreatDoor

/- Plain: what each of the log's calls leads to on a calm disk. -/
namespace Go.Proofs.YtikjckdoldiddaaGreatDoor
open Go.RowKit Go.Maps
set_option linter.unusedVariables false
set_option linter.unusedSimpArgs false

def Lo.full (v : Lo) (W : Nat) : Prop := 4096 ≤ v.d.seen.length ∨ v.d.room < v.d.used + W
structure Done (v r : Lo) (n : Wv) (V : Wv → Prop) (W : Nat) : Prop where
  view : r.s.v = n
  good : r.Good V
  room : r.d.room = v.d.room
  used : r.d.used ≤ v.d.used + W
  files : r.d.seen.length ≤ v.d.seen.length + 1
theorem recs_one (p : By) : recs [p] = recB p := by unfold recs; simp
theorem hard_to {v : Lo} {V : Wv → Prop} (h : v.Good V) (htt : v.s.tt < 999999999998) (t x : Int) :
    (v.hard t x = (1, v) ∧ goodHS t x = false) ∨ (v.hard t x = (7, v) ∧ v.full 164) ∨
    (goodHS t x = true ∧ (v.hard t x).1 = 0 ∧ Done v (v.hard t x).2 { v.s.v with ht := t, hv := x } (fun u => V u ∨ u = { v.s.v with ht := t, hv := x }) 164) := by
  unfold Lo.hard
  by_cases hg : goodHS t x = true
  · rw [if_pos hg]
    right
    have hrun : v.s.v.runs [payB [1, t, x] false []] = some { v.s.v with ht := t, hv := x } := by rw [runs_cons, take_hard _ hg]; rfl
    have hw := write_to h htt (M := [payB [1, t, x] false []]) (fun p hp => by rw [List.mem_singleton.1 hp]; exact small_pay _ _ _ (by simp) (by simp)) (by simp) hrun
    have e : recs [payB [1, t, x] false []] = hardB t x := recs_one _
    have hl := hardB_len t x
    rw [e] at hw
    rcases hw with ⟨h1, h2⟩ | ⟨h1, h2, h3, h4, h5⟩
    · left
      rw [e] at h2
      rw [h1, if_neg (by simp)]
      exact ⟨rfl, h2.imp id fun h => by omega⟩
    right
    rw [if_pos h1]
    have hv : (v.write (hardB t x)).2.s.v = v.s.v := Lo.write_v _ _
    have e2 : (v.write (hardB t x)).2.setH t x = (v.write (hardB t x)).2.setV { v.s.v with ht := t, hv := x } := by unfold Lo.setH Lo.setV; rw [hv]
    rw [e] at h4
    refine ⟨hg, rfl, ?_⟩
    rw [e2]
    refine ⟨rfl, h2.mono fun u hu => ?_, h3, by show (v.write (hardB t x)).2.d.used ≤ _; omega, h5⟩
    rcases hu with hu | ⟨j, hj, hu⟩
    · exact .inl hu
    cases j with
    | zero => rw [List.take_zero] at hu; cases hu; exact .inl h.now
    | succ j =>
      rw [List.take_of_length_le (by simp), hrun] at hu
      cases hu; exact .inr rfl
  left
  rw [if_neg hg]
  exact ⟨rfl, by simpa using hg⟩
theorem app_to {v : Lo} {V : Wv → Prop} (h : v.Good V) (htt : v.s.tt < 999999999998) (l : List Ent) :
    (v.app l = (51, v) ∧ v.s.v.adds l = none) ∨ (l = [] ∧ v.app l = (0, v)) ∨ (v.app l = (7, v) ∧ v.full ((entsB l).length + 123)) ∨
    (∃ n, l ≠ [] ∧ v.s.v.adds l = some n ∧ (v.app l).1 = 0 ∧ Done v (v.app l).2 n (fun u => V u ∨ ∃ j, j < l.length ∧ u = { v.s.v with l := v.s.v.l ++ l.take (j + 1) }) ((entsB l).length + 123)) := by
  unfold Lo.app
  cases ha : v.s.v.adds l with
  | none => exact .inl ⟨rfl, rfl⟩
  | some n =>
    right
    unfold Lo.appR
    dsimp only
    by_cases hl : l = []
    · left; rw [if_pos hl]; exact ⟨hl, rfl⟩
    right
    rw [if_neg hl]
    have hlen := Wv.adds_len _ _ _ ha
    have hrun := adds_runs _ _ _ ha
    have e : recs (l.map entR) = entsB l := (entsB_recs l).symm
    have hw := write_to h htt (M := l.map entR) (fun p hp => by
      obtain ⟨x, hx, rfl⟩ := List.mem_map.1 hp
      exact small_pay [2, x.i, x.t] _ _ (by simp) (hlen x hx)) (by simpa using hl) hrun
    rw [e] at hw
    rcases hw with ⟨h1, h2⟩ | ⟨h1, h2, h3, h4, h5⟩
    · left
      rw [e] at h2
      rw [h1, if_neg (by simp)]
      exact ⟨rfl, h2⟩
    right
    rw [if_pos h1]
    rw [e] at h4
    refine ⟨n, hl, rfl, rfl, rfl, h2.mono fun u hu => ?_, h3, by show (v.write (entsB l)).2.d.used ≤ _; omega, h5⟩
    rcases hu with hu | ⟨j, hj, hu⟩
    · exact .inl hu
    cases j with
    | zero => rw [List.take_zero] at hu; cases hu; exact .inl h.now
    | succ j =>
      rw [List.length_map] at hj
      right
      refine ⟨j, by omega, ?_⟩
      have hp : v.s.v.adds (l.take (j + 1)) = some { v.s.v with l := v.s.v.l ++ l.take (j + 1) } := by
        have h6 := ha
        rw [← List.take_append_drop (j + 1) l, Wv.adds_append] at h6
        cases hx : v.s.v.adds (l.take (j + 1)) with
        | none => rw [hx] at h6; cases h6
        | some y => rw [Wv.adds_eq _ _ _ hx]
      have h7 := adds_runs _ _ _ hp
      rw [← List.map_take, h7] at hu
      cases hu; rfl
theorem cut_to {v : Lo} {V : Wv → Prop} (h : v.Good V) (htt : v.s.tt < 999999999998) (hlast : v.s.v.last < 9223372036854775808) (n : Int) :
    (v.cut n = (51, v) ∧ (n ≤ v.s.v.i ∨ v.s.v.last < n)) ∨ (v.cut n = (7, v) ∧ v.full 164) ∨
    (¬ (n ≤ v.s.v.i ∨ v.s.v.last < n) ∧ (v.cut n).1 = 0 ∧ Done v (v.cut n).2 (v.s.v.cutV n) (fun u => V u ∨ u = v.s.v.cutV n) 164) := by
  unfold Lo.cut
  by_cases hg : n ≤ v.s.v.i ∨ v.s.v.last < n
  · left; rw [if_pos hg]; exact ⟨rfl, hg⟩
  right
  rw [if_neg hg]
  have hi := within_big h.gd.1.i
  have hrun : v.s.v.runs [payB [3, n] false []] = some (v.s.v.cutV n) := by rw [runs_cons, take_cut (by omega) (by omega) (by omega) (by omega)]; rfl
  have hw := write_to h htt (M := [payB [3, n] false []]) (fun p hp => by rw [List.mem_singleton.1 hp]; exact small_pay _ _ _ (by simp) (by simp)) (by simp) hrun
  have e : recs [payB [3, n] false []] = cutB n := recs_one _
  have hl := cutB_len n
  rw [e] at hw
  rcases hw with ⟨h1, h2⟩ | ⟨h1, h2, h3, h4, h5⟩
  · left
    rw [e] at h2
    rw [h1, if_neg (by simp)]
    exact ⟨rfl, h2.imp id fun h => by omega⟩
  right
  rw [if_pos h1]
  rw [e] at h4
  refine ⟨hg, rfl, rfl, h2.mono fun u hu => ?_, h3, by show (v.write (cutB n)).2.d.used ≤ _; omega, h5⟩
  rcases hu with hu | ⟨j, hj, hu⟩
  · exact .inl hu
  cases j with
  | zero => rw [List.take_zero] at hu; cases hu; exact .inl h.now
  | succ j =>
    rw [List.take_of_length_le (by simp), hrun] at hu
    cases hu; exact .inr rfl
theorem sync_used {d : DS} (hok : d.Ok) (hc : d.Calm) : d.sync.2.used ≤ d.used := by
  rw [sync_calmW hc]
  obtain ⟨-, -, h⟩ := runAll_ok d.acts d.last hok.fits hok.rise hok.len
  rw [← hok.seen] at h
  show tTot d.seen + aTot [] ≤ tTot d.last + aTot d.acts
  have : aTot [] = 0 := rfl
  omega
theorem sync_to {v : Lo} {V : Wv → Prop} (h : v.Good V) : v.sync.1 = 0 ∧ Done v v.sync.2 v.s.v (fun u => u = v.s.v) 0 ∧ v.sync.2.d.acts = [] ∧ v.sync.2.d.last = v.sync.2.d.seen ∧ v.sync.2.d.seen = v.d.seen ∧ v.sync.2.s = v.s := by
  have e := sync_calmW h.calm
  have hok := h.ok.sync
  have hu := sync_used h.ok h.calm
  unfold Lo.sync
  rw [e] at hok hu ⊢
  refine ⟨rfl, ⟨rfl, ⟨hok, h.calm, h.gd, CI.still (s := v.s) rfl h.gd.gr rfl, rfl⟩, rfl, hu, Nat.le_succ _⟩, rfl, rfl, rfl, rfl⟩
theorem Sound.rebased {v : Wv} (h : v.Sound) {n t : Int} (hn : v.i ≤ n) (h1 : withinS n 0 = true) (h2 : withinS t 0 = true) : (v.rebased n t).Sound := by
  refine ⟨h1, h2, h.h, ?_⟩
  have gen : ∀ (l : List Ent) (a b : Wv), a.adds l = some b → ∀ c : Wv, c.last = a.last → Wv.adds c l = some { c with l := c.l ++ l } := by
    intro l
    induction l with
    | nil => intro a b _ c _; show some c = _; rw [List.append_nil]
    | cons e r ih =>
      intro a b ha c hc
      rw [Wv.adds_cons] at ha
      split at ha
      · rename_i hg
        have hg2 : c.good e = true := by unfold Wv.good at hg ⊢; rw [hc]; exact hg
        rw [Wv.adds_cons, if_pos hg2, ih _ _ ha { c with l := c.l ++ [e] } (by
          show c.i + ((c.l ++ [e]).length : Int) = a.i + ((a.l ++ [e]).length : Int)
          have hc : c.i + (c.l.length : Int) = a.i + (a.l.length : Int) := hc
          rw [List.length_append, List.length_append]
          simp only [List.length_singleton]
          omega)]
        simp
      cases ha
  show Wv.adds ⟨v.ht, v.hv, n, t, []⟩ (if v.at_ n = t ∧ n ≤ v.last then v.l.drop (n - v.i).toNat else []) = some ⟨v.ht, v.hv, n, t, if v.at_ n = t ∧ n ≤ v.last then v.l.drop (n - v.i).toNat else []⟩
  by_cases hc : v.at_ n = t ∧ n ≤ v.last
  · rw [if_pos hc]
    obtain ⟨u, hu⟩ : ∃ u : Nat, n - v.i = (u : Int) := ⟨(n - v.i).toNat, by omega⟩
    have hul : u ≤ v.l.length := by have h3 := hc.2; unfold Wv.last at h3; omega
    rw [hu, Int.toNat_natCast]
    have h4 := h.l
    have e : v.l = v.l.take u ++ v.l.drop u := (List.take_append_drop u v.l).symm
    have h5 : Wv.adds ⟨v.ht, v.hv, v.i, v.t, []⟩ (v.l.take u ++ v.l.drop u) = some v := by rw [← e]; exact h4
    rw [Wv.adds_append] at h5
    cases hx : Wv.adds ⟨v.ht, v.hv, v.i, v.t, []⟩ (v.l.take u) with
    | none => rw [hx] at h5; cases h5
    | some y =>
      rw [hx] at h5
      have hy := Wv.adds_eq _ _ _ hx
      have h6 := gen _ _ _ h5 ⟨v.ht, v.hv, n, t, []⟩ (by
        rw [hy]
        show n + (0 : Int) = v.i + ((([] : List Ent) ++ v.l.take u).length : Int)
        rw [List.nil_append, List.length_take]
        omega)
      rw [h6]
      simp
  rw [if_neg hc]; rfl
/-- The old segments go. -/
theorem dropL_to (s : Wl) (V : Wv → Prop) (hV : V s.v) : ∀ (o : List Nat) (d : DS), d.Ok → d.Calm → Gd d.seen s → CI d V → o.Nodup → (∀ n ∈ o, n < s.fr ∧ n < 1000000000000 ∧ ∃ b, tGet d.seen (fileW n) = some b) →
    (dropL o d).1 = 0 ∧ (Lo.mk s (dropL o d).2).Good V ∧ (dropL o d).2.room = d.room ∧ (dropL o d).2.used = d.used ∧ (dropL o d).2.seen.length ≤ d.seen.length := by
  intro o
  induction o with
  | nil => intro d h1 h2 h3 h4 _ _; exact ⟨rfl, ⟨h1, h2, h3, h4, hV⟩, rfl, rfl, Nat.le_refl _⟩
  | cons n r ih =>
    intro d h1 h2 h3 h4 hn ho
    obtain ⟨o1, o2, b, o3⟩ := ho n (List.mem_cons_self ..)
    obtain ⟨n1, n2⟩ := List.nodup_cons.1 hn
    have hr := h1.run.1
    have e := drop_calmW h2 (fileW_may o2) o3
    have hok := h1.drop (fileW n)
    rw [dropL_cons2, e, if_pos rfl]
    rw [e] at hok
    dsimp only at hok ⊢
    have hgd := h3.del hr o1
    obtain ⟨i1, i2, i3, i4, i5⟩ := ih { d with seen := tDel d.seen (fileW n), acts := d.acts ++ [.drop (fileW n)] } hok h2 hgd
      (h4.act (d' := { d with seen := tDel d.seen (fileW n), acts := d.acts ++ [.drop (fileW n)] }) h1.seen (fun u hu => hu) rfl rfl fun q _ => ⟨s, hgd.gr, hV⟩) n2 fun m hm => by
      obtain ⟨p1, p2, c, p3⟩ := ho m (List.mem_cons_of_mem _ hm)
      refine ⟨p1, p2, c, ?_⟩
      exact (tGet_del_other hr fun e => by have := fileW_inj e; subst this; exact n1 hm).trans p3
    refine ⟨i1, i2, i3, i4.trans ?_, Nat.le_trans i5 (tDel_len _ _)⟩
    show tTot d.last + aTot (d.acts ++ [.drop (fileW n)]) = tTot d.last + aTot d.acts
    rw [aTot_append]
    simp [aTot, ActS.data]
where
  dropL_cons2 (n : Nat) (r : List Nat) (d : DS) : dropL (n :: r) d = if (d.drop (fileW n)).1 = 0 then dropL r (d.drop (fileW n)).2 else d.drop (fileW n) := rfl
theorem rebase_to {v : Lo} {V : Wv → Prop} (h : v.Good V) (htt : v.s.tt < 999999999998) (n t : Int) :
    (v.rebase n t = (51, v) ∧ (n < v.s.v.i ∨ withinS n 0 = false ∨ withinS t 0 = false)) ∨ (v.rebase n t = (7, v) ∧ v.full (v.s.v.rebased n t).whole.length) ∨
    (¬ (n < v.s.v.i ∨ withinS n 0 = false ∨ withinS t 0 = false) ∧ (v.rebase n t).1 = 0 ∧ Done v (v.rebase n t).2 (v.s.v.rebased n t) (fun u => u = v.s.v.rebased n t) (v.s.v.rebased n t).whole.length) := by
  unfold Lo.rebase
  by_cases hg : n < v.s.v.i ∨ withinS n 0 = false ∨ withinS t 0 = false
  · left; rw [if_pos hg]; exact ⟨rfl, hg⟩
  right
  rw [if_neg hg]
  have g1 : withinS n 0 = true := by
    cases e : withinS n 0 with
    | true => rfl
    | false => exact absurd (.inr (.inl e)) hg
  have g2 : withinS t 0 = true := by
    cases e : withinS t 0 with
    | true => rfl
    | false => exact absurd (.inr (.inr e)) hg
  have hsn := Sound.rebased h.gd.1 (n := n) (t := t) (by omega) g1 g2
  have hr := h.ok.run.1
  have hnone : ∀ m, v.s.tt < m → m < 1000000000000 → tGet v.d.seen (fileW m) = none := by
    rcases h.gd.cases with ⟨h1, h2, h3⟩ | ⟨h2, R, h1, h3⟩
    · exact fun m m1 m2 => h3 m (by omega) m2
    exact h3
  have hn1 := hnone (v.s.tt + 1) (by omega) (by omega)
  generalize v.s.v.rebased n t = nv at *
  have hw := write_newW h.calm (fileW_may (show v.s.tt + 1 < 1000000000000 by omega)) nv.whole hn1
  have hok := h.ok.write (fileW (v.s.tt + 1)) 0 nv.whole
  unfold Lo.reb1
  by_cases hf1 : v.d.seen.length ≥ 4096
  · left
    rw [if_pos hf1] at hw
    rw [hw]
    exact ⟨rfl, .inl hf1⟩
  rw [if_neg hf1] at hw
  by_cases hf2 : (nv.whole.length : Int) > v.d.room - v.d.used
  · left
    rw [if_pos hf2] at hw
    rw [hw]
    exact ⟨rfl, .inr (by omega)⟩
  right
  rw [if_neg hf2] at hw
  rw [hw] at hok ⊢
  rw [if_pos rfl]
  dsimp only at hok ⊢
  obtain ⟨d1, hd1⟩ : ∃ d1 : DS, d1 = { v.d with seen := tPut v.d.seen (fileW (v.s.tt + 1)) nv.whole, acts := v.d.acts ++ [.write (fileW (v.s.tt + 1)) 0 nv.whole] } := ⟨_, rfl⟩
  rw [← hd1] at hok ⊢
  have hc1 : d1.Calm := by rw [hd1]; exact h.calm
  have hl := Lines.alone hr (n := v.s.tt + 1) (by omega) (by omega) (fun m m1 m2 => hnone m (by omega) m2) hsn (small_whole hsn) (M := []) (y := []) (fun p hp => by cases hp) pickB_nil (v := nv) rfl
  rw [List.append_nil, List.append_nil] at hl
  have ew : recs (wholeR nv) = nv.whole := (whole_recs nv).symm
  rw [ew] at hl
  have esz : sizedB (wholeR nv) = nv.whole.length := by rw [← recs_len, ew]
  rw [esz] at hl
  have hseen : d1.seen = tPut v.d.seen (fileW (v.s.tt + 1)) nv.whole := by rw [hd1]
  have hgd : Gd d1.seen ⟨nv, v.s.tt + 1, v.s.tt + 1, nv.whole.length⟩ := by
    rw [hseen]
    refine ⟨hsn, .inr ⟨⟨_, hl⟩, fun m m1 m2 => ?_⟩⟩
    dsimp only at m1
    rw [tGet_put_other hr fun e => by have := fileW_inj e; omega]
    exact hnone m (by omega) m2
  have hs := sync_calmW hc1
  have hsok := hok.sync
  have hsu := sync_used hok hc1
  rw [hs] at hsok hsu ⊢
  unfold Lo.reb2
  rw [if_pos rfl]
  dsimp only at hsok hsu ⊢
  have hu1 : d1.used = v.d.used + nv.whole.length := by
    rw [hd1]
    show tTot v.d.last + aTot (v.d.acts ++ [.write (fileW (v.s.tt + 1)) 0 nv.whole]) = tTot v.d.last + aTot v.d.acts + nv.whole.length
    rw [aTot_append]
    simp [aTot, ActS.data]
    omega
  have hex : ∀ m ∈ v.old, m < v.s.tt + 1 ∧ m < 1000000000000 ∧ ∃ b, tGet d1.seen (fileW m) = some b := fun m hm => by
    unfold Lo.old at hm
    rw [List.mem_range'_1] at hm
    refine ⟨by omega, by omega, ?_⟩
    rw [hseen, tGet_put_other hr fun e => by have := fileW_inj e; omega]
    rcases h.gd.cases with ⟨h1, h2, h3⟩ | ⟨h2, R, h1, h3⟩
    · omega
    exact ⟨_, (h1.seg m (by omega) (by omega)).1⟩
  have hnd : v.old.Nodup := by unfold Lo.old; exact List.nodup_range'
  obtain ⟨q1, q2, q3, q4, q5⟩ := dropL_to ⟨nv, v.s.tt + 1, v.s.tt + 1, nv.whole.length⟩ (fun u => u = nv) rfl v.old { d1 with last := d1.seen, acts := [] } hsok hc1 hgd (CI.still rfl hgd.gr rfl) hnd hex
  refine ⟨hg, q1, rfl, q2, q3.trans (by rw [hd1]), ?_, Nat.le_trans q5 ?_⟩
  · show (dropL v.old { d1 with last := d1.seen, acts := [] }).2.used ≤ _
    rw [q4]; omega
  show d1.seen.length ≤ _
  rw [hseen]; exact tPut_len _ _ _
end Go.Proofs.YtikjckdoldiddaaGreatDoor
